/- PyQ, PyR, PyS, PyU in one text. -/
import Derived.Test.YtginbellakkliaaDoorMPyl

/- Plain: counting bits, and the deal of finesselaw12.Made. -/
namespace Go.Proofs.YtginbellakkliaaDoor
open Go.RowKit Go.Shelf Go.Sort

theorem cnt_lor (m c : Nat) (hc : c < 64) (hb : m.testBit c = false) : ∀ k, cnt (lor m (shl1 c)) k = cnt m k + if c < k then 1 else 0
  | 0 => by simp [cnt]
  | k + 1 => by
    simp only [cnt, cnt_lor m c hc hb k, testBit_lor, testBit_shl1]
    by_cases h : c = k
    · subst h; simp [hb, hc]
    · simp [h]; split <;> split <;> omega
theorem pop_lor (m c : Nat) (hc : c < 64) (hb : m.testBit c = false) : pop (lor m (shl1 c)) = pop m + 1 := by
  unfold pop; rw [cnt_lor m c hc hb, if_pos hc]
theorem cnt_landn (m c : Nat) (hc : c < 64) (hb : m.testBit c = true) : ∀ k, cnt (landn m (shl1 c)) k + (if c < k then 1 else 0) = cnt m k
  | 0 => by simp [cnt]
  | k + 1 => by
    have ih := cnt_landn m c hc hb k
    simp only [cnt, testBit_landn, testBit_shl1]
    by_cases h : c = k
    · subst h; simp [hb, hc] at ih ⊢; omega
    · simp [h] at ih ⊢
      split <;> split at ih <;> omega
theorem pop_landn (m c : Nat) (hc : c < 64) (hb : m.testBit c = true) : pop (landn m (shl1 c)) + 1 = pop m := by
  have := cnt_landn m c hc hb 64
  rw [if_pos hc] at this; exact this
theorem cnt_pos (m : Nat) : ∀ k, 0 < cnt m k → ∃ c, c < k ∧ m.testBit c = true
  | 0, h => by simp [cnt] at h
  | k + 1, h => by
    unfold cnt at h
    cases hb : m.testBit k
    · rw [hb] at h
      obtain ⟨c, h1, h2⟩ := cnt_pos m k (by simpa using h)
      exact ⟨c, by omega, h2⟩
    · exact ⟨k, by omega, hb⟩
theorem pop_nil : pop 0 = 0 := by decide +kernel
theorem cnt_full (m : Nat) : ∀ k, (∀ c, c < k → m.testBit c = true) → cnt m k = k
  | 0, _ => rfl
  | k + 1, h => by simp only [cnt, cnt_full m k (fun c hc => h c (by omega)), h k (by omega)]; rfl
theorem cnt_mono (m : Nat) {a b : Nat} (h : a ≤ b) : cnt m a ≤ cnt m b := by
  obtain ⟨k, rfl⟩ : ∃ k, b = a + k := ⟨b - a, by omega⟩
  rw [cnt_add]; omega
/-- there is a card that is not in a set of fewer than 52 -/
theorem free_card {m : Nat} (h : pop m < 52) : ∃ c, c < 52 ∧ m.testBit c = false := by
  apply Classical.byContradiction
  intro hn
  have h1 : ∀ c, c < 52 → m.testBit c = true := fun c hc => by
    cases hb : m.testBit c
    · exact absurd ⟨c, hc, hb⟩ hn
    · rfl
  have h2 := cnt_full m 52 h1
  have h3 := cnt_mono m (show 52 ≤ 64 by decide)
  unfold pop at h
  omega
theorem downL_pop : ∀ (n m : Nat), W64 m → pop m = n → (downL m).length = n
  | 0, m, hw, h => by
    by_cases h0 : m = 0
    · subst h0; rw [downL_zero]; rfl
    · have h1 : m.testBit (bitLen m - 1) = true := top_bit h0
      have := pop_landn m (bitLen m - 1) (by have := bitLen_w64 hw; have := bitLen_pos h0; omega) h1
      omega
  | n + 1, m, hw, h => by
    have h0 : m ≠ 0 := by intro e; rw [e, pop_nil] at h; omega
    have h1 : m.testBit (bitLen m - 1) = true := top_bit h0
    have h2 := pop_landn m (bitLen m - 1) (by have := bitLen_w64 hw; have := bitLen_pos h0; omega) h1
    rw [downL_cons h0 hw, List.length_cons, downL_pop n _ hw.landn (by omega)]
/-- how many cards after c are dealt already -/
def seekK (all c : Nat) : Nat → Nat
  | 0 => 0
  | f + 1 => if all.testBit (c % 52) = true then seekK all (c + 1) f + 1 else 0
theorem seek_spec (all : Nat) : ∀ (f c : Nat), (∃ j, j ≤ f ∧ all.testBit ((c + j) % 52) = false) → seekK all c f ≤ f ∧ all.testBit ((c + seekK all c f) % 52) = false ∧ ∀ j, j < seekK all c f → all.testBit ((c + j) % 52) = true
  | 0, c, ⟨j, hj, h⟩ => by
    obtain rfl : j = 0 := by omega
    exact ⟨Nat.le_refl _, h, fun j hj => by simp [seekK] at hj⟩
  | f + 1, c, ⟨j, hj, h⟩ => by
    unfold seekK
    split
    · rename_i h1
      have hj0 : j ≠ 0 := by rintro rfl; rw [Nat.add_zero] at h; rw [h] at h1; cases h1
      obtain ⟨q1, q2, q3⟩ := seek_spec all f (c + 1) ⟨j - 1, by omega, by rw [show c + 1 + (j - 1) = c + j by omega]; exact h⟩
      refine ⟨by omega, by rw [show c + (seekK all (c + 1) f + 1) = c + 1 + seekK all (c + 1) f by omega]; exact q2, fun i hi => ?_⟩
      by_cases hi0 : i = 0
      · subst hi0; exact h1
      · have := q3 (i - 1) (by omega)
        rwa [show c + 1 + (i - 1) = c + i by omega] at this
    · rename_i h1
      exact ⟨by omega, by simpa using h1, fun i hi => by omega⟩
theorem seek_free {all c : Nat} (h : pop all < 52) : seekK all c 51 ≤ 51 ∧ all.testBit ((c + seekK all c 51) % 52) = false ∧ ∀ j, j < seekK all c 51 → all.testBit ((c + j) % 52) = true := by
  obtain ⟨x, hx, hf⟩ := free_card h
  refine seek_spec all 51 c ⟨(x + 52 - c % 52) % 52, by omega, ?_⟩
  rw [show (c + (x + 52 - c % 52) % 52) % 52 = x by omega]
  exact hf
/-- what finesselaw12.Made is given -/
structure Mn where
  zs : List Nat
  n : Nat
  c : Nat
structure DlP where
  all : Nat
  h : Nat → Nat
def Mn.each (x : Mn) : Nat := 1 + x.n % 13
def Mn.at (x : Mn) (i : Nat) : Nat := if i < x.zs.length then x.zs.getD i 0 % 52 else 7 * i % 52
def Mn.card (x : Mn) (s : DlP) (i : Nat) : Nat := (x.at i + seekK s.all (x.at i) 51) % 52
def DlP.next (x : Mn) (s : DlP) (i : Nat) : DlP := ⟨lor s.all (shl1 (x.card s i)), setH s.h (i % 4) (lor (s.h (i % 4)) (shl1 (x.card s i)))⟩
def Mn.dealN (x : Mn) : Nat → DlP
  | 0 => ⟨0, fun _ => 0⟩
  | i + 1 => (x.dealN i).next x i
/-- the deal and the contract -/
def Mn.d (x : Mn) : Nat → Nat := (x.dealN (4 * x.each)).h
def Mn.lv (x : Mn) : Nat := 1 + x.c % 7
def Mn.dn (x : Mn) : Nat := x.c / 7 % 5
def Mn.rk (x : Mn) : Nat := x.c % 3
def Mn.dc (x : Mn) : Nat := x.c / 35 % 4
/-- the hands of a deal under way -/
structure DealOk (s : DlP) (i : Nat) : Prop where
  bit : ∀ j c, (s.h j).testBit c = true → c < 52 ∧ s.all.testBit c = true
  alls : ∀ c, s.all.testBit c = true → ∃ j, j < 4 ∧ (s.h j).testBit c = true
  apart : ∀ j j' c, j ≠ j' → (s.h j).testBit c = true → (s.h j').testBit c = false
  pop : ∀ j, j < 4 → pop (s.h j) = (i + 3 - j) / 4
  popa : Go.Proofs.YtginbellakkliaaDoor.pop s.all = i
  far : ∀ j, 4 ≤ j → s.h j = 0
theorem deal_next (x : Mn) {s : DlP} {i : Nat} (h : DealOk s i) (hi : i < 52) : DealOk (s.next x i) (i + 1) := by
  obtain ⟨q1, q2, -⟩ := seek_free (all := s.all) (c := x.at i) (by rw [h.popa]; exact hi)
  unfold DlP.next
  have hc52 : x.card s i < 52 := Nat.mod_lt _ (by decide)
  have hq : s.all.testBit (x.card s i) = false := q2
  generalize x.card s i = c at *
  have hfree : ∀ j, (s.h j).testBit c = false := fun j => by
    cases hb : (s.h j).testBit c
    · rfl
    · rw [(h.bit j c hb).2] at hq; cases hq
  refine ⟨?_, ?_, ?_, ?_, ?_, ?_⟩
  · intro j z hz
    dsimp only at hz ⊢
    rw [testBit_lor, testBit_shl1]
    unfold setH at hz
    split at hz
    next hj =>
      rw [testBit_lor, testBit_shl1, Bool.or_eq_true] at hz
      rcases hz with hz | hz
      · exact ⟨(h.bit _ z hz).1, by rw [(h.bit _ z hz).2]; rfl⟩
      · exact ⟨by simp at hz; omega, by rw [hz, Bool.or_true]⟩
    next hj => exact ⟨(h.bit _ z hz).1, by rw [(h.bit _ z hz).2]; rfl⟩
  · intro z hz
    dsimp only at hz ⊢
    rw [testBit_lor, Bool.or_eq_true] at hz
    rcases hz with hz | hz
    · obtain ⟨j, hj, hb⟩ := h.alls z hz
      refine ⟨j, hj, ?_⟩
      unfold setH; split
      next he => subst he; rw [testBit_lor, hb]; rfl
      next he => exact hb
    · refine ⟨i % 4, Nat.mod_lt _ (by decide), ?_⟩
      unfold setH; rw [if_pos rfl, testBit_lor, hz, Bool.or_true]
  · intro j j' z hjj hz
    dsimp only at hz ⊢
    unfold setH at hz ⊢
    by_cases h1 : j = i % 4
    · have h2 : j' ≠ i % 4 := by omega
      rw [if_pos h1, testBit_lor, testBit_shl1, Bool.or_eq_true] at hz
      rw [if_neg h2]
      rcases hz with hz | hz
      · exact h.apart _ _ z (by omega) hz
      · simp at hz; obtain ⟨rfl, _⟩ := hz; exact hfree j'
    · rw [if_neg h1] at hz
      by_cases h2 : j' = i % 4
      · rw [if_pos h2, testBit_lor, testBit_shl1, Bool.or_eq_false_iff]
        refine ⟨h.apart j _ z (by omega) hz, ?_⟩
        simp only [Bool.and_eq_false_iff, decide_eq_false_iff_not]
        left; rintro rfl; rw [hfree j] at hz; cases hz
      · rw [if_neg h2]; exact h.apart j j' z hjj hz
  · intro j hj
    dsimp only
    unfold setH
    split
    next he => subst he; rw [pop_lor _ _ (by omega) (hfree _), h.pop _ hj]; omega
    next he => rw [h.pop _ hj]; omega
  · dsimp only
    rw [pop_lor _ _ (by omega) hq, h.popa]
  · intro j hj
    dsimp only
    unfold setH
    rw [if_neg (by omega)]; exact h.far j hj
theorem deal_ok (x : Mn) : ∀ i, i ≤ 52 → DealOk (x.dealN i) i
  | 0, _ => by
    refine ⟨fun j c h => ?_, fun c h => ?_, fun j j' c _ h => ?_, fun j hj => ?_, pop_nil, fun _ _ => rfl⟩
    · simp [Mn.dealN] at h
    · simp [Mn.dealN] at h
    · simp [Mn.dealN] at h
    · simp only [Mn.dealN, pop_nil]; omega
  | i + 1, h => deal_next x (deal_ok x i (by omega)) (by omega)
theorem lt_of_bits {m : Nat} (h : ∀ c, m.testBit c = true → c < 52) : m < 4503599627370496 := by
  refine Nat.lt_pow_two_of_testBit (n := 52) m fun i hi => ?_
  cases hb : m.testBit i
  · rfl
  · exact absurd (h i hb) (by omega)
theorem allTo_bit (h : Nat → Nat) : ∀ k c, (allTo h k).testBit c = true → ∃ j, j < k ∧ (h j).testBit c = true
  | 0, c, hc => by simp [allTo] at hc
  | k + 1, c, hc => by
    rw [allTo, testBit_lor, Bool.or_eq_true] at hc
    rcases hc with hc | hc
    · obtain ⟨j, h1, h2⟩ := allTo_bit h k c hc; exact ⟨j, by omega, h2⟩
    · exact ⟨k, by omega, hc⟩
theorem Mn.each_le (x : Mn) : 1 ≤ x.each ∧ x.each ≤ 13 := by unfold Mn.each; omega
theorem made_deal (x : Mn) : DealOk (x.dealN (4 * x.each)) (4 * x.each) := deal_ok x _ (by have := x.each_le; omega)
theorem made_pop (x : Mn) (j : Nat) (hj : j < 4) : pop (x.d j) = x.each := by unfold Mn.d; rw [(made_deal x).pop j hj]; omega
theorem made_lt (x : Mn) (j : Nat) : x.d j < 4503599627370496 := lt_of_bits fun c hc => ((made_deal x).bit j c hc).1
theorem made_w64 (x : Mn) (j : Nat) : W64 (x.d j) := Nat.lt_of_lt_of_le (made_lt x j) (by decide)
theorem land_zero {a b : Nat} (h : ∀ c, a.testBit c = true → b.testBit c = false) : land a b = 0 := by
  apply Nat.eq_of_testBit_eq
  intro c
  rw [testBit_land, Nat.zero_testBit]
  cases hq : a.testBit c
  · rfl
  · rw [h c hq]; rfl
theorem made_dealt (x : Mn) : dealOk x.d = true := by
  refine dealOk_yes fun i hi => ?_
  have hn := x.each_le
  have hd := made_deal x
  have hl : ∀ j, j < 4 → (downL (x.d j)).length = x.each := fun j hj => downL_pop _ _ (made_w64 x j) (made_pop x j hj)
  have h2 : land (allTo x.d i) (x.d i) = 0 := by
    refine land_zero fun c hq => ?_
    obtain ⟨j, hj, hc⟩ := allTo_bit _ i c hq
    exact hd.apart j i c (by omega) hc
  unfold handOk
  rw [hl i hi, h2, decide_eq_true (made_lt x i), decide_eq_true hn.1, decide_eq_true hn.2]
  by_cases h0 : i = 0
  · subst h0; rfl
  · have : numTo x.d i = x.each := by unfold numTo; rw [if_neg h0, hl (i - 1) (by omega)]
    rw [this]; simp
theorem made_new (x : Mn) : newE x.d x.lv x.dn x.rk x.dc = 0 := by
  have h : (leadV x.lv x.dn x.rk x.dc).2 = 0 := by
    unfold leadV
    rw [if_neg (by unfold Mn.lv; omega), if_pos ⟨by unfold Mn.lv; omega, by unfold Mn.dn; omega, by unfold Mn.rk; omega, by unfold Mn.dc; omega⟩]
  unfold newE
  rw [if_pos h, if_pos (made_dealt x)]
end Go.Proofs.YtginbellakkliaaDoor

/- finesselaw12.Made over this seat's program. -/
namespace Go.Proofs.YtginbellakkliaaDoor
open Go.RowKit Go.Shelf Go.Sort
attribute [local go_sem] Oper.semAt_some

set_option maxHeartbeats 1000000 in
set_option maxRecDepth 100000 in
theorem law12_made (x : Mn) (a : Option Addr) (len cap : Nat) (w : World) (hz : Byt w a len x.zs) (hn : x.n < 256) (hc : x.c < 256) :
    Calls Tryd.prog 12 #[.slice a len cap, .int .u8 (x.n : Int), .int .u8 (x.c : Int)] w fun e w' =>
      e = .returned (.tuple #[.agg #[.int .u64 (x.d 0 : Int), .int .u64 (x.d 1 : Int), .int .u64 (x.d 2 : Int), .int .u64 (x.d 3 : Int)], .agg #[.int .u8 (x.lv : Int), .int .u8 (x.dn : Int), .int .u8 (x.rk : Int), .int .u8 (x.dc : Int)]]) ∧ Below w.heap.size w w' := by
  have hel := x.each_le
  obtain ⟨M, hM⟩ : ∃ M, M = 4 * x.each := ⟨_, rfl⟩
  have hM1 : (4 * (1 + (x.n : Int) % 13)) = (M : Int) := by rw [hM]; unfold Mn.each; omega
  have hM52 : M ≤ 52 := by omega
  have HM := Lib.hid hM
  clear hM
  go_enter Tryd.func12, Tryd.ntmps12
  go_wp2_with fail
  clear hM1
  obtain ⟨wa, hwa⟩ : ∃ wa, wa = ((w.alloc (.cells #[.int .u64 0, .int .u64 0, .int .u64 0, .int .u64 0] 26)).alloc (.cells #[.int .u8 0, .int .u8 0, .int .u8 0, .int .u8 0] 28)).alloc (.cells #[.int .u64 0, .int .u64 0, .int .u64 0, .int .u64 0] 26) := ⟨_, rfl⟩
  rw [← hwa]
  have hBa : Below w.heap.size w wa := by rw [hwa]; exact (((Below.refl _ _).alloc (Nat.le_refl _) _).alloc (by simp) _).alloc (by simp; omega) _
  have hr0 : Row wa w.heap.size 26 #[.int .u64 0, .int .u64 0, .int .u64 0, .int .u64 0] := by rw [hwa]; exact ((Row.new _ _ _).alloc _).alloc _
  have hr1 : Row wa (w.heap.size + 1) 28 #[.int .u8 0, .int .u8 0, .int .u8 0, .int .u8 0] := by
    rw [hwa]; have := (Row.new (w.alloc (.cells #[.int .u64 0, .int .u64 0, .int .u64 0, .int .u64 0] 26)) 28 #[.int .u8 0, .int .u8 0, .int .u8 0, .int .u8 0]).alloc (.cells #[.int .u64 0, .int .u64 0, .int .u64 0, .int .u64 0] 26)
    rwa [World.size_alloc] at this
  have hr2 : Row wa (w.heap.size + 2) 26 #[.int .u64 ((x.dealN 0).h 0 : Int), .int .u64 ((x.dealN 0).h 1 : Int), .int .u64 ((x.dealN 0).h 2 : Int), .int .u64 ((x.dealN 0).h 3 : Int)] := by
    rw [hwa]; have := (Row.new ((w.alloc (.cells #[.int .u64 0, .int .u64 0, .int .u64 0, .int .u64 0] 26)).alloc (.cells #[.int .u8 0, .int .u8 0, .int .u8 0, .int .u8 0] 28)) 26 #[.int .u64 0, .int .u64 0, .int .u64 0, .int .u64 0])
    rw [World.size_alloc, World.size_alloc] at this; exact this
  have hza := hz.below (Nat.le_refl _) hBa
  have hsa : wa.heap.size = w.heap.size + 3 := by rw [hwa]; simp
  have hzb : 0 < len → ∀ ad, a = some ad → ad.block < w.heap.size := fun h0 ad h => by obtain ⟨b, off, e, hb, _⟩ := hz.at h0; rw [e] at h; injection h with h; subst h; exact hb
  have HSA := Lib.hid hsa
  generalize hN : w.heap.size = N at *
  clear hwa hsa hz
  go_loopw [10, 19] (fun al i wr => ∃ k : Nat, k ≤ M ∧ i = .int .i64 (k : Int) ∧ al = .int .u64 ((x.dealN k).all : Int) ∧ Row wr (N + 2) 26 (arr4 (x.dealN k).h) ∧ Kept (fun b => b ≠ N + 2) wa wr) (fun _ i _ => M - (intOf i).toNat)
  case atStart => exact ⟨0, by omega, rfl, rfl, hr2, Kept.refl _ _⟩
  case round =>
    obtain ⟨k, hk, rfl, rfl, hrr, hkp⟩ := hrel
    by_cases hlt : k < M
    · have hd := deal_ok x k (by omega)
      have hsk := seek_free (all := (x.dealN k).all) (c := x.at k) (by rw [hd.popa]; omega)
      have hNX := Lib.hid (show x.dealN (k + 1) = (x.dealN k).next x k from rfl)
      have hwh : ∀ j, W64 ((x.dealN k).h j) := fun j => Nat.lt_of_lt_of_le (lt_of_bits fun c hc => (hd.bit j c hc).1) (by decide)
      have hwa64 : W64 (x.dealN k).all := Nat.lt_of_lt_of_le (lt_of_bits fun c hc => by obtain ⟨j, _, hb⟩ := hd.alls c hc; exact (hd.bit j c hb).1) (by decide)
      have hcardk : Hid (x.card (x.dealN k) k = (x.at k + seekK (x.dealN k).all (x.at k) 51) % 52) := Lib.hid rfl
      clear hd
      unfold DlP.next at hNX
      generalize x.dealN k = s at *
      have hk4 : k % 4 < 4 := Nat.mod_lt _ (by decide)
      have hm := (hrr.cell (k % 4)).trans (arr4_get s.h _ hk4)
      have hf := hrr.frozen (k % 4)
      have hwk := hwh (k % 4)
      have HW := Lib.hid hwh
      have HRR := Lib.hid hrr
      clear hwh hrr
      by_cases hkl : k < len
      · have hX : x.at k = x.zs.getD k 0 % 52 := by unfold Mn.at; rw [hza.length, if_pos hkl]
        obtain ⟨b, off, rfl, hb, hcs⟩ := hza.at (by omega)
        have hck := (hkp.cell (p := ⟨b, off + k, none⟩) (by have := hzb (by omega) _ rfl; show b ≠ N + 2; simp at this; omega) hb).trans (hcs k hkl)
        have hby := hza.byte k
        have HCS := Lib.hid hcs
        clear hcs
        generalize x.zs.getD k 0 = z at *
        obtain ⟨c0, hc0⟩ : ∃ c0, c0 = x.at k := ⟨_, rfl⟩
        have hXI : (z : Int) % 52 = (c0 : Int) := by rw [hc0, hX]; omega
        have hc52 : c0 < 52 := by rw [hc0, hX]; omega
        rw [← hc0] at hsk hcardk
        clear hc0 hX
        obtain ⟨D, hD⟩ : ∃ D, D = seekK s.all c0 51 := ⟨_, rfl⟩
        rw [← hD] at hsk hcardk
        clear hD
        obtain ⟨hD51, hDf, hDt⟩ := hsk
        have HDT := Lib.hid hDt
        have HDF := Lib.hid hDf
        clear hDt hDf
        go_wp2_with fail
        rw [hXI]
        clear hXI
        go_loopw [12] (fun c w2 => ∃ j, j ≤ D ∧ c = .int .u8 (((c0 + j) % 52 : Nat) : Int) ∧ w2 = wr) (fun c _ => ((c0 + D) % 52 + 52 - (intOf c).toNat) % 52)
        case atStart => exact ⟨0, by omega, by rw [Nat.add_zero, Nat.mod_eq_of_lt hc52], rfl⟩
        case round =>
          obtain ⟨j, hj, rfl, rfl⟩ := hrel
          obtain ⟨cj, hcj⟩ : ∃ cj, cj = (c0 + j) % 52 := ⟨_, rfl⟩
          have hcj52 : cj < 52 := by omega
          rw [← hcj]
          have HCJ := Lib.hid hcj
          by_cases hjD : j < D
          · have hbit : s.all.testBit cj = true := by rw [hcj]; exact HDT.out j hjD
            clear hcj
            go_wp2_with fail
            go_roundw
            case rel => exact ⟨j + 1, by omega, by have := HCJ.out; congr 1; omega, trivial⟩
            case measure => have := HCJ.out; simp [intOf]; omega
          · have hje : j = D := by omega
            have hbit : s.all.testBit cj = false := by rw [hcj, hje]; exact HDF.out
            have HCK := Lib.hid (show x.card s k = cj by rw [hcardk.out, hcj, hje])
            clear hcj hje
            go_wp2_with fail
            have r5 := HRR.out.set (k % 4) (.int .u64 ((lor (s.h (k % 4)) (shl1 cj) : Nat) : Int))
            rw [arr4_set _ _ _ hk4] at r5
            refine ⟨⟨k + 1, by omega, by go_num, by rw [hNX.out, HCK.out], ?_, hkp.setCell (by simp) _⟩, by simp [intOf]; omega⟩
            rw [hNX.out, HCK.out]
            exact r5
      · have hX : x.at k = 7 * k % 52 := by unfold Mn.at; rw [hza.length, if_neg hkl]
        obtain ⟨c0, hc0⟩ : ∃ c0, c0 = x.at k := ⟨_, rfl⟩
        have hXI : 7 * (k : Int) % 52 = (c0 : Int) := by rw [hc0, hX]; omega
        have hc52 : c0 < 52 := by rw [hc0, hX]; omega
        rw [← hc0] at hsk hcardk
        clear hc0 hX
        obtain ⟨D, hD⟩ : ∃ D, D = seekK s.all c0 51 := ⟨_, rfl⟩
        rw [← hD] at hsk hcardk
        clear hD
        obtain ⟨hD51, hDf, hDt⟩ := hsk
        have HDT := Lib.hid hDt
        have HDF := Lib.hid hDf
        clear hDt hDf
        go_wp2_with fail
        rw [hXI]
        clear hXI
        go_loopw [12] (fun c w2 => ∃ j, j ≤ D ∧ c = .int .u8 (((c0 + j) % 52 : Nat) : Int) ∧ w2 = wr) (fun c _ => ((c0 + D) % 52 + 52 - (intOf c).toNat) % 52)
        case atStart => exact ⟨0, by omega, by rw [Nat.add_zero, Nat.mod_eq_of_lt hc52], rfl⟩
        case round =>
          obtain ⟨j, hj, rfl, rfl⟩ := hrel
          obtain ⟨cj, hcj⟩ : ∃ cj, cj = (c0 + j) % 52 := ⟨_, rfl⟩
          have hcj52 : cj < 52 := by omega
          rw [← hcj]
          have HCJ := Lib.hid hcj
          by_cases hjD : j < D
          · have hbit : s.all.testBit cj = true := by rw [hcj]; exact HDT.out j hjD
            clear hcj
            go_wp2_with fail
            go_roundw
            case rel => exact ⟨j + 1, by omega, by have := HCJ.out; congr 1; omega, trivial⟩
            case measure => have := HCJ.out; simp [intOf]; omega
          · have hje : j = D := by omega
            have hbit : s.all.testBit cj = false := by rw [hcj, hje]; exact HDF.out
            have HCK := Lib.hid (show x.card s k = cj by rw [hcardk.out, hcj, hje])
            clear hcj hje
            go_wp2_with fail
            have r5 := HRR.out.set (k % 4) (.int .u64 ((lor (s.h (k % 4)) (shl1 cj) : Nat) : Int))
            rw [arr4_set _ _ _ hk4] at r5
            refine ⟨⟨k + 1, by omega, by go_num, by rw [hNX.out, HCK.out], ?_, hkp.setCell (by simp) _⟩, by simp [intOf]; omega⟩
            rw [hNX.out, HCK.out]
            exact r5
    · have hke : k = M := by omega
      subst hke
      have hR0 := hr0.kept (S := fun b => b ≠ N + 2) (by omega) hkp
      have hR1 := hr1.kept (S := fun b => b ≠ N + 2) (by omega) hkp
      have hlb : Below N w wr := hBa.trans ⟨hkp.os, hkp.tape, hkp.output, hkp.size, fun b hb => hkp.block b (by show b ≠ N + 2; omega) (by have := HSA.out; omega)⟩
      have e0 := hrr.cell 0
      have e1 := hrr.cell 1
      have e2 := hrr.cell 2
      have e3 := hrr.cell 3
      simp only [List.getElem?_toArray, List.getElem?_cons_zero, List.getElem?_cons_succ] at e0 e1 e2 e3
      have f0 := hR0.cell 0
      have f1 := hR0.cell 1
      have f2 := hR0.cell 2
      have f3 := hR0.cell 3
      simp only [List.getElem?_toArray, List.getElem?_cons_zero, List.getElem?_cons_succ] at f0 f1 f2 f3
      have g0 := hR1.cell 0
      have g1 := hR1.cell 1
      have g2 := hR1.cell 2
      have g3 := hR1.cell 3
      simp only [List.getElem?_toArray, List.getElem?_cons_zero, List.getElem?_cons_succ] at g0 g1 g2 g3
      have q0 := hR0.frozen 0
      have q1 := hR0.frozen 1
      have q2 := hR0.frozen 2
      have q3 := hR0.frozen 3
      have p0 := hR1.frozen 0
      have p1 := hR1.frozen 1
      have p2 := hR1.frozen 2
      have p3 := hR1.frozen 3
      go_wp2_with fail
      have hdx : (x.dealN k).h = x.d := by unfold Mn.d; rw [HM.out]
      have e1 : (1 + (x.c : Int) % 7) = (x.lv : Int) := by unfold Mn.lv; omega
      have e2 : (x.c : Int) / 7 % 5 = (x.dn : Int) := by unfold Mn.dn; omega
      have e3 : (x.c : Int) % 3 = (x.rk : Int) := by unfold Mn.rk; omega
      have e4 : (x.c : Int) / 35 % 4 = (x.dc : Int) := by unfold Mn.dc; omega
      rw [e1, e2, e3, e4, hdx]
      refine bodyPost_ret (v := .tuple #[.agg #[.int .u64 (x.d 0 : Int), .int .u64 (x.d 1 : Int), .int .u64 (x.d 2 : Int), .int .u64 (x.d 3 : Int)], .agg #[.int .u8 (x.lv : Int), .int .u8 (x.dn : Int), .int .u8 (x.rk : Int), .int .u8 (x.dc : Int)]]) (by simp [results, Tryd.results12, go_sem, f0, f1, f2, f3, g0, g1, g2, g3]) rfl ⟨rfl, ?_⟩
      rw [hN]
      have n0 : N ≤ N := Nat.le_refl _
      have n1 : N ≤ N + 1 := by omega
      exact (((((((hlb.setCell (p := ⟨N, 0, none⟩) n0 _).setCell (p := ⟨N, 1, none⟩) n0 _).setCell (p := ⟨N, 2, none⟩) n0 _).setCell (p := ⟨N, 3, none⟩) n0 _).setCell (p := ⟨N + 1, 0, none⟩) n1 _).setCell (p := ⟨N + 1, 1, none⟩) n1 _).setCell (p := ⟨N + 1, 2, none⟩) n1 _).setCell (p := ⟨N + 1, 3, none⟩) n1 _
end Go.Proofs.YtginbellakkliaaDoor

/- Plain: deals that cannot be played (finesselaw12.PlayWrong), and the lowest card of a set. -/
namespace Go.Proofs.YtginbellakkliaaDoor
open Go.RowKit Go.Shelf Go.Sort

theorem drop1_landn {x : Nat} (h0 : x ≠ 0) (hx : W64 x) : drop1 x = landn x (shl1 (Lib.ctz 64 x)) := by
  obtain ⟨_, _, hc⟩ := ctz_spec x h0 hx
  apply Nat.eq_of_testBit_eq
  intro i
  rw [drop1_bit x i h0 hx, testBit_landn, testBit_shl1]
  by_cases h : i = Lib.ctz 64 x
  · subst h; simp [hc]
  · have : ¬ Lib.ctz 64 x = i := fun e => h e.symm
    simp [h, this]
theorem pop_drop1 {x : Nat} (h0 : x ≠ 0) (hx : W64 x) : pop (drop1 x) + 1 = pop x := by
  obtain ⟨_, _, hc⟩ := ctz_spec x h0 hx
  rw [drop1_landn h0 hx]
  exact pop_landn x _ hc (ctz_bit x h0 hx).1
theorem drop1_w64 {x : Nat} (hx : W64 x) : W64 (drop1 x) := Nat.lt_of_le_of_lt Nat.and_le_left hx
theorem dealOk_at {d : Nat → Nat} (h : dealOk d = true) {k : Nat} (hk : k < 4) : handOk d k = true := by
  cases hh : handOk d k
  · rw [dealOk_no hk hh] at h; cases h
  · rfl
theorem handOk_lt {d : Nat → Nat} {k : Nat} (h : handOk d k = true) : d k < 4503599627370496 := by
  unfold handOk at h; simp only [Bool.and_eq_true, decide_eq_true_eq] at h; exact h.1.1.1.1
theorem handOk_land {d : Nat → Nat} {k : Nat} (h : handOk d k = true) : land (allTo d k) (d k) = 0 := by
  unfold handOk at h; simp only [Bool.and_eq_true, decide_eq_true_eq] at h; exact h.1.2
theorem handOk_len {d : Nat → Nat} {k : Nat} (h : handOk d k = true) (h0 : k ≠ 0) : (downL (d k)).length = (downL (d (k - 1))).length := by
  unfold handOk at h; simp only [Bool.and_eq_true, Bool.or_eq_true, decide_eq_true_eq] at h
  rcases h.2 with h1 | h1
  · exact absurd h1 h0
  · rw [h1]; unfold numTo; rw [if_neg h0]
theorem dealOk_len {d : Nat → Nat} (h : dealOk d = true) : ∀ k, k < 4 → (downL (d k)).length = (downL (d 0)).length
  | 0, _ => rfl
  | k + 1, hk => by rw [handOk_len (dealOk_at h hk) (by omega), Nat.add_sub_cancel]; exact dealOk_len h k (by omega)
theorem allTo_has (d : Nat → Nat) (c : Nat) : ∀ k j, j < k → (d j).testBit c = true → (allTo d k).testBit c = true
  | 0, j, h, _ => by omega
  | k + 1, j, h, hb => by
    rw [allTo, testBit_lor]
    by_cases he : j = k
    · subst he; rw [hb, Bool.or_true]
    · rw [allTo_has d c k j (by omega) hb]; rfl
theorem dealOk_apart {d : Nat → Nat} (h : dealOk d = true) {j k : Nat} (hjk : j < k) (hk : k < 4) (c : Nat) (hb : (d j).testBit c = true) : (d k).testBit c = false := by
  have h1 := congrArg (fun m => m.testBit c) (handOk_land (dealOk_at h hk))
  simp only [testBit_land, allTo_has d c k j hjk hb, Bool.true_and, Nat.zero_testBit] at h1
  exact h1
theorem made_lead (x : Mn) : (leadV x.lv x.dn x.rk x.dc).2 = 0 := by
  unfold leadV
  rw [if_neg (by unfold Mn.lv; omega), if_pos ⟨by unfold Mn.lv; omega, by unfold Mn.dn; omega, by unfold Mn.rk; omega, by unfold Mn.dc; omega⟩]
theorem newE_deal (x : Mn) {d : Nat → Nat} (h : dealOk d = false) : newE d x.lv x.dn x.rk x.dc = 120 := by
  unfold newE; rw [if_pos (made_lead x), h]; rfl
theorem made_ne (x : Mn) (j : Nat) (hj : j < 4) : x.d j ≠ 0 := by
  intro e
  have h := made_pop x j hj
  rw [e, pop_nil] at h
  have := x.each_le
  omega
theorem wrong0 (x : Mn) (i : Nat) (hi : i < 4) : dealOk (setH x.d i (drop1 (x.d i))) = false := by
  cases h : dealOk (setH x.d i (drop1 (x.d i)))
  · rfl
  · exfalso
    have hw := made_w64 x i
    have h1 := dealOk_len h i hi
    have h2 := dealOk_len h ((i + 1) % 4) (Nat.mod_lt _ (by decide))
    have e1 : setH x.d i (drop1 (x.d i)) i = drop1 (x.d i) := by simp [setH]
    have e2 : setH x.d i (drop1 (x.d i)) ((i + 1) % 4) = x.d ((i + 1) % 4) := by simp [setH]; omega
    rw [e1, downL_pop _ _ (drop1_w64 hw) rfl] at h1
    rw [e2, downL_pop _ _ (made_w64 x _) (made_pop x _ (Nat.mod_lt _ (by decide)))] at h2
    have h3 := pop_drop1 (made_ne x i hi) hw
    rw [made_pop x i hi] at h3
    omega
theorem wrong1 (x : Mn) (i : Nat) (hi : i < 4) : dealOk (setH x.d i (x.d ((i + 1) % 4))) = false := by
  cases h : dealOk (setH x.d i (x.d ((i + 1) % 4)))
  · rfl
  · exfalso
    have hj : (i + 1) % 4 < 4 := Nat.mod_lt _ (by decide)
    have hp := made_pop x _ hj
    have he := x.each_le
    obtain ⟨c, -, hc⟩ := cnt_pos (x.d ((i + 1) % 4)) 64 (by unfold pop at hp; omega)
    have e1 : setH x.d i (x.d ((i + 1) % 4)) i = x.d ((i + 1) % 4) := by simp [setH]
    have e2 : setH x.d i (x.d ((i + 1) % 4)) ((i + 1) % 4) = x.d ((i + 1) % 4) := by simp [setH]
    rcases Nat.lt_or_ge i ((i + 1) % 4) with hlt | hge
    · have := dealOk_apart h hlt hj c (by rw [e1]; exact hc)
      rw [e2, hc] at this; cases this
    · have := dealOk_apart h (show (i + 1) % 4 < i by omega) hi c (by rw [e2]; exact hc)
      rw [e1, hc] at this; cases this
theorem wrong2 (x : Mn) (i k : Nat) (hi : i < 4) (hk : k < 12) : dealOk (setH x.d i (lor (drop1 (x.d i)) (shl1 (52 + k)))) = false := by
  cases h : dealOk (setH x.d i (lor (drop1 (x.d i)) (shl1 (52 + k))))
  · rfl
  · exfalso
    have h1 := handOk_lt (dealOk_at h hi)
    have e1 : setH x.d i (lor (drop1 (x.d i)) (shl1 (52 + k))) i = lor (drop1 (x.d i)) (shl1 (52 + k)) := by simp [setH]
    rw [e1] at h1
    have h2 : (lor (drop1 (x.d i)) (shl1 (52 + k))).testBit (52 + k) = true := by
      rw [testBit_lor, testBit_shl1]; simp; right; omega
    have h3 := Nat.testBit_lt_two_pow (Nat.lt_of_lt_of_le h1 (show 4503599627370496 ≤ 2 ^ (52 + k) from Nat.le_trans (by decide : 4503599627370496 ≤ 2 ^ 52) (Nat.pow_le_pow_right (by decide) (by omega))))
    rw [h2] at h3; cases h3
theorem newE_lead {d : Nat → Nat} {lv dn rk dc e : Nat} (h : (leadV lv dn rk dc).2 = e) (he : e ≠ 0) : newE d lv dn rk dc = e := by
  unfold newE; rw [h, if_neg he]
end Go.Proofs.YtginbellakkliaaDoor

/- Plain: the legal cards, and what holds of a play under way. -/
namespace Go.Proofs.YtginbellakkliaaDoor
open Go.RowKit Go.Shelf Go.Sort

theorem y_testBit_lor_shl1 (m c i : Nat) (hc : c < 64) : (lor m (shl1 c)).testBit i = (m.testBit i || decide (c = i)) := by
  rw [testBit_lor, testBit_shl1]; simp [hc]
theorem y_maskR_ok : ∀ (zs : List Nat) (m : Nat), (maskR m zs).2 = 0 ↔ (∀ c ∈ zs, c < 52) ∧ (∀ c ∈ zs, m.testBit c = false) ∧ zs.Nodup
  | [], m => by simp [maskR]
  | c :: cs, m => by
    unfold maskR
    by_cases h1 : c < 52
    · rw [if_pos h1]
      cases h2 : m.testBit c
      · simp only [Bool.false_eq_true, if_false]
        rw [y_maskR_ok cs]
        have e : ∀ x, (lor m (shl1 c)).testBit x = false ↔ (m.testBit x = false ∧ c ≠ x) := by
          intro x; rw [y_testBit_lor_shl1 _ _ _ (by omega)]; simp
        simp only [e, List.mem_cons, List.nodup_cons, forall_eq_or_imp, h1, h2, true_and]
        constructor
        · rintro ⟨h3, h4, h5⟩
          exact ⟨h3, fun x hx => (h4 x hx).1, fun hx => (h4 c hx).2 rfl, h5⟩
        · rintro ⟨h3, h4, h5, h6⟩
          exact ⟨h3, fun x hx => ⟨h4 x hx, fun hc => h5 (hc ▸ hx)⟩, h6⟩
      · simp [h2]
    · rw [if_neg h1]; simp [h1]
theorem y_maskR_bit : ∀ (zs : List Nat) (m : Nat), (maskR m zs).2 = 0 → ∀ i, (maskR m zs).1.testBit i = (m.testBit i || decide (i ∈ zs))
  | [], m, _, i => by simp [maskR]
  | c :: cs, m, h, i => by
    unfold maskR at h ⊢
    by_cases h1 : c < 52
    · rw [if_pos h1] at h ⊢
      cases h2 : m.testBit c
      · simp only [h2, Bool.false_eq_true, if_false] at h ⊢
        rw [y_maskR_bit cs _ h i, y_testBit_lor_shl1 _ _ _ (by omega)]
        by_cases hc : c = i
        · simp [hc]
        · have : ¬ i = c := fun e => hc e.symm
          simp [hc, this]
      · simp [h2] at h
    · rw [if_neg h1] at h; simp at h
theorem y_rightB_iff (zs : List Nat) : rightB zs = true ↔ 1 ≤ zs.length ∧ zs.length ≤ 4 ∧ (∀ c ∈ zs, c < 52) ∧ zs.Nodup := by
  have := y_maskR_ok zs 0
  simp only [Nat.zero_testBit] at this
  simp only [rightB, Bool.and_eq_true, decide_eq_true_eq, beq_iff_eq]
  rw [this]
  simp
  constructor
  · rintro ⟨⟨a, b⟩, c, d⟩; exact ⟨a, b, c, d⟩
  · rintro ⟨a, b, c, d⟩; exact ⟨⟨a, b⟩, c, d⟩
theorem y_bit_lt {m i : Nat} {n : Nat} (hm : m < 2 ^ n) (h : m.testBit i = true) : i < n := by
  rcases Nat.lt_or_ge i n with h1 | h1
  · exact h1
  · rw [Nat.testBit_lt_two_pow (Nat.lt_of_lt_of_le hm (Nat.pow_le_pow_right (by decide) h1))] at h; cases h
theorem y_fold_bits (p : Nat → Bool) (step : Nat → Fin 64 → Nat) (hstep : ∀ f c, step f c = if p c.val then lor f (shl1 c.val) else f) (i : Nat) : ∀ (l : List (Fin 64)) (f : Nat),
    (l.foldl step f).testBit i = (f.testBit i || l.any fun c => p c.val && decide (c.val = i))
  | [], f => by simp
  | c :: l, f => by
    rw [List.foldl_cons, y_fold_bits p step hstep i l, hstep, List.any_cons]
    cases hp : p c.val
    · simp
    · simp only [if_true, Bool.true_and]
      rw [y_testBit_lor_shl1 _ _ _ c.isLt, Bool.or_assoc]
theorem y_any_bits (p : Nat → Bool) (m i : Nat) (hm : W64 m) : ((bitsList m).any fun c => p c.val && decide (c.val = i)) = (m.testBit i && p i) := by
  rw [Bool.eq_iff_iff]
  simp only [List.any_eq_true, Bool.and_eq_true, decide_eq_true_eq, bitsList, List.mem_filter, List.mem_finRange, true_and]
  constructor
  · rintro ⟨c, h1, h2, rfl⟩; exact ⟨h1, h2⟩
  · rintro ⟨h1, h2⟩
    exact ⟨⟨i, y_bit_lt hm h1⟩, h1, h2, rfl⟩
theorem y_follow_bit (s m i : Nat) (hm : W64 m) : (follow s (bitsList m)).testBit i = (m.testBit i && decide (suit i = s)) := by
  unfold follow
  rw [y_fold_bits (fun c => decide (suit c = s)) (folStep s) (fun f c => by simp [folStep]) i, y_any_bits (fun c => decide (suit c = s)) _ _ hm]
  simp
theorem y_rest_bit (hand : Nat) (zs : List Nat) (h : (maskR 0 zs).2 = 0) (i : Nat) : (restV hand zs).testBit i = (hand.testBit i && !zs.contains i) := by
  unfold restV
  rw [testBit_landn, y_maskR_bit zs 0 h]
  simp
theorem y_right_mask {zs : List Nat} (h : rightB zs = true) : (maskR 0 zs).2 = 0 := by
  simp only [rightB, Bool.and_eq_true, beq_iff_eq] at h; exact h.2
theorem y_suit_div {c : Nat} (h : c < 52) : suit c = c / 13 := by unfold suit; rw [if_pos h]
/-- the trick under way is right -/
theorem trick_mem {s : PSt} {c : Nat} : c ∈ s.trick ↔ ∃ i, i < s.ct ∧ s.cs i = c := by
  simp [PSt.trick]
theorem trick_len (s : PSt) : s.trick.length = s.ct := by simp [PSt.trick]
theorem trick_get (s : PSt) {i : Nat} (h : i < s.ct) : s.trick.getD i 0 = s.cs i := by
  rw [List.getD_eq_getElem?_getD, PSt.trick, List.getElem?_map, List.getElem?_range h]; rfl
/-- a hand has a card of suit s -/
def hasS (s hand : Nat) : Bool := follow s (bitsList hand) != 0
theorem hasS_iff {s hand : Nat} (hw : W64 hand) : hasS s hand = true ↔ ∃ x, hand.testBit x = true ∧ suit x = s := by
  unfold hasS
  rw [bne_iff_ne]
  have hfb := fun i => y_follow_bit s hand i hw
  constructor
  · intro h
    apply Classical.byContradiction
    intro hn
    apply h
    apply Nat.eq_of_testBit_eq
    intro i
    rw [hfb, Nat.zero_testBit]
    cases hb : hand.testBit i
    · rfl
    · rw [Bool.true_and, decide_eq_false_iff_not]; exact fun e => hn ⟨i, hb, e⟩
  · rintro ⟨x, hx, he⟩ h0
    have := hfb x
    rw [h0, hx, he] at this; simp at this
/-- the cards that can be played: of a hand of which no card lies in the trick -/
theorem playable_bit {hand : Nat} {zs : List Nat} (hh : hand < 4503599627370496) (h3 : zs.length ≤ 3) (h52 : ∀ c ∈ zs, c < 52) (hnd : zs.Nodup) (hz : ∀ c ∈ zs, hand.testBit c = false) (c : Nat) :
    (playableV hand zs).1.testBit c = (hand.testBit c && (decide (zs.length = 0) || decide (suit c = suit (zs.getD 0 0)) || !hasS (suit (zs.getD 0 0)) hand)) := by
  have hw : W64 hand := Nat.lt_of_lt_of_le hh (by decide)
  unfold playableV
  rw [if_neg (by omega)]
  by_cases h0 : zs.length = 0
  · rw [if_pos h0, decide_eq_true h0, Bool.true_or, Bool.true_or, Bool.and_true]
  rw [if_neg h0]
  have hr : rightB zs = true := (y_rightB_iff zs).2 ⟨by omega, by omega, h52, hnd⟩
  rw [if_pos hr, if_neg (by omega)]
  have hrest : restV hand zs = hand := by
    apply Nat.eq_of_testBit_eq
    intro i
    rw [y_rest_bit hand zs (y_right_mask hr)]
    cases hb : hand.testBit i
    · rfl
    · have : i ∉ zs := fun hi => by rw [hz i hi] at hb; cases hb
      simp [this]
  show (playLate (suit (zs.getD 0 0)) (restV hand zs)).testBit c = _
  rw [hrest, decide_eq_false h0, Bool.false_or]
  unfold playLate hasS
  by_cases hf : follow (suit (zs.getD 0 0)) (bitsList hand) = 0
  · rw [if_neg (fun h => h hf), hf]
    simp
  · rw [if_pos hf, y_follow_bit _ _ _ hw, (bne_iff_ne (a := follow (suit (zs.getD 0 0)) (bitsList hand)) (b := 0)).2 hf]
    simp
theorem playable_ne {hand : Nat} {zs : List Nat} (hh : hand < 4503599627370496) (h3 : zs.length ≤ 3) (h52 : ∀ c ∈ zs, c < 52) (hnd : zs.Nodup) (hz : ∀ c ∈ zs, hand.testBit c = false) (h0 : hand ≠ 0) : (playableV hand zs).1 ≠ 0 := by
  intro e
  have hw : W64 hand := Nat.lt_of_lt_of_le hh (by decide)
  have hb := playable_bit hh h3 h52 hnd hz
  rw [e] at hb
  simp only [Nat.zero_testBit] at hb
  cases hs : hasS (suit (zs.getD 0 0)) hand
  · have := hb (Lib.ctz 64 hand)
    rw [(ctz_bit hand h0 hw).1, hs] at this
    simp at this
  · obtain ⟨x, hx, he⟩ := (hasS_iff hw).1 hs
    have := hb x
    rw [hx, he] at this; simp at this
/-- a play of a deal, with t tricks over, n cards a hand -/
structure PInv (d : Nat → Nat) (n : Nat) (p : Ply) (t : Nat) : Prop where
  ok : p.ok
  bit : ∀ j c, (p.st.h j).testBit c = true → (d j).testBit c = true
  hpop : ∀ j, j < 4 → pop (p.st.h j) + t + (if (j + 4 - p.st.ld) % 4 < p.st.ct then 1 else 0) = n
  many : p.steps.length = 4 * t + p.st.ct
  gone : ∀ x ∈ p.steps, ∀ j, (p.st.h j).testBit x.c = false
  tr : ∀ i, i < p.st.ct → ∃ x ∈ p.steps, x.c = p.st.cs i
  nd : p.st.trick.Nodup
  cover : ∀ j c, (d j).testBit c = true → (p.st.h j).testBit c = true ∨ ∃ x ∈ p.steps, x.c = c
  part : ∀ x ∈ p.steps, ∃ j, j < 4 ∧ (d j).testBit x.c = true
  far : ∀ j, 4 ≤ j → p.st.h j = 0
structure Deal4 (d : Nat → Nat) (n : Nat) : Prop where
  lt : ∀ j, d j < 4503599627370496
  apart : ∀ j j' c, j ≠ j' → (d j).testBit c = true → (d j').testBit c = false
  pop : ∀ j, j < 4 → pop (d j) = n
  pos : 1 ≤ n
  le : n ≤ 13
  far : ∀ j, 4 ≤ j → d j = 0
theorem PInv.lt {d : Nat → Nat} {n t : Nat} {p : Ply} (h : PInv d n p t) (hd : Deal4 d n) (j : Nat) : p.st.h j < 4503599627370496 :=
  lt_of_bits fun _ hc => y_bit_lt (n := 52) (hd.lt j) (h.bit j _ hc)
theorem PInv.trick52 {d : Nat → Nat} {n t : Nat} {p : Ply} (h : PInv d n p t) : ∀ c ∈ p.st.trick, c < 52 := fun c hc => by
  obtain ⟨i, _, rfl⟩ := trick_mem.1 hc; exact h.ok.st.cs i
theorem PInv.trickNo {d : Nat → Nat} {n t : Nat} {p : Ply} (h : PInv d n p t) (j : Nat) : ∀ c ∈ p.st.trick, (p.st.h j).testBit c = false := fun c hc => by
  obtain ⟨i, hi, rfl⟩ := trick_mem.1 hc
  obtain ⟨x, hx, e⟩ := h.tr i hi
  rw [← e]; exact h.gone x hx j
theorem PInv.trick3 {d : Nat → Nat} {n t : Nat} {p : Ply} (h : PInv d n p t) : p.st.trick.length ≤ 3 := by rw [trick_len]; have := h.ok.st.ct; omega
/-- the legal cards -/
theorem PInv.legal_bit {d : Nat → Nat} {n t : Nat} {p : Ply} (h : PInv d n p t) (hd : Deal4 d n) (ho : p.st.over = false) (c : Nat) :
    p.st.legal.testBit c = ((p.st.h p.st.next).testBit c && (decide (p.st.ct = 0) || decide (suit c = suit (p.st.trick.getD 0 0)) || !hasS (suit (p.st.trick.getD 0 0)) (p.st.h p.st.next))) := by
  unfold PSt.legal
  rw [ho]
  have := playable_bit (h.lt hd p.st.next) h.trick3 h.trick52 h.nd (h.trickNo p.st.next) c
  rw [trick_len] at this
  exact this
theorem PInv.legal_sub {d : Nat → Nat} {n t : Nat} {p : Ply} (h : PInv d n p t) (hd : Deal4 d n) {c : Nat} (hc : p.st.legal.testBit c = true) : (p.st.h p.st.next).testBit c = true := by
  cases ho : p.st.over
  · rw [h.legal_bit hd ho, Bool.and_eq_true] at hc; exact hc.1
  · unfold PSt.legal at hc; rw [ho] at hc; simp at hc
theorem PInv.legal_52 {d : Nat → Nat} {n t : Nat} {p : Ply} (h : PInv d n p t) (hd : Deal4 d n) {c : Nat} (hc : p.st.legal.testBit c = true) : c < 52 :=
  y_bit_lt (n := 52) (h.lt hd _) (h.legal_sub hd hc)
theorem next_lt (s : PSt) : s.next < 4 := Nat.mod_lt _ (by decide)
theorem PInv.next_pop {d : Nat → Nat} {n t : Nat} {p : Ply} (h : PInv d n p t) : pop (p.st.h p.st.next) + t = n := by
  have := h.hpop p.st.next (next_lt _)
  have h1 := h.ok.st.ld
  have h2 := h.ok.st.ct
  have h3 : (p.st.next + 4 - p.st.ld) % 4 = p.st.ct := by unfold PSt.next; omega
  rw [h3, if_neg (by omega)] at this
  exact this
theorem over_iff {s : PSt} : s.over = true ↔ ∀ j, j < 4 → s.h j = 0 := by
  unfold PSt.over
  simp only [Bool.and_eq_true, beq_iff_eq]
  constructor
  · rintro ⟨⟨⟨h0, h1⟩, h2⟩, h3⟩ j hj
    rcases (show j = 0 ∨ j = 1 ∨ j = 2 ∨ j = 3 by omega) with rfl | rfl | rfl | rfl <;> assumption
  · intro h; exact ⟨⟨⟨h 0 (by omega), h 1 (by omega)⟩, h 2 (by omega)⟩, h 3 (by omega)⟩
theorem pop_zero {m : Nat} (hm : W64 m) (h : pop m = 0) : m = 0 := by
  apply Classical.byContradiction
  intro h0
  have h1 := ctz_bit m h0 hm
  obtain ⟨_, _, h3⟩ := ctz_spec m h0 hm
  have h2 := pop_landn m (Lib.ctz 64 m) h3 h1.1
  omega
theorem PInv.over_iff {d : Nat → Nat} {n t : Nat} {p : Ply} (h : PInv d n p t) : p.st.over = true ↔ t = n := by
  rw [Go.Proofs.YtginbellakkliaaDoor.over_iff]
  have hn := h.next_pop
  constructor
  · intro ho; rw [ho _ (next_lt _), pop_nil] at hn; omega
  · intro ht j hj
    have := h.hpop j hj
    exact pop_zero (h.ok.st.h j) (by omega)
theorem PInv.t_le {d : Nat → Nat} {n t : Nat} {p : Ply} (h : PInv d n p t) : t ≤ n := by have := h.next_pop; omega
/-- behind the last card no trick is under way -/
theorem PInv.ct_over {d : Nat → Nat} {n t : Nat} {p : Ply} (h : PInv d n p t) (ht : t = n) : p.st.ct = 0 := by
  have h1 := h.hpop p.st.ld h.ok.st.ld
  have h3 : (p.st.ld + 4 - p.st.ld) % 4 = 0 := by omega
  rw [h3] at h1
  apply Classical.byContradiction
  intro h0
  rw [if_pos (by omega)] at h1; omega
theorem PInv.legal_ne {d : Nat → Nat} {n t : Nat} {p : Ply} (h : PInv d n p t) (hd : Deal4 d n) (ho : p.st.over = false) : p.st.legal ≠ 0 := by
  unfold PSt.legal
  rw [ho]
  refine playable_ne (h.lt hd p.st.next) h.trick3 h.trick52 h.nd (h.trickNo p.st.next) fun e => ?_
  have hn := h.next_pop
  rw [e, pop_nil] at hn
  have := h.over_iff.2 (by omega)
  rw [ho] at this; cases this
theorem legal_over {s : PSt} (h : s.over = true) : s.legal = 0 := by unfold PSt.legal; rw [h]; rfl
theorem PInv.legal_zero {d : Nat → Nat} {n t : Nat} {p : Ply} (h : PInv d n p t) (hd : Deal4 d n) : p.st.legal = 0 ↔ p.st.over = true := by
  constructor
  · intro hl
    cases ho : p.st.over
    · exact absurd hl (h.legal_ne hd ho)
    · rfl
  · exact legal_over
theorem PInv.legal64 {d : Nat → Nat} {n t : Nat} {p : Ply} (h : PInv d n p t) (hd : Deal4 d n) : W64 p.st.legal := by
  refine Nat.lt_of_lt_of_le (lt_of_bits fun c hc => h.legal_52 hd hc) (by decide)
/-- a legal card played -/
theorem PInv.do {d : Nat → Nat} {n t : Nat} {p : Ply} (h : PInv d n p t) (hd : Deal4 d n) {c : Nat} (hc : p.st.legal.testBit c = true) :
    p.doV c = (0, ({ p with back := [] } : Ply).put c) ∧ PInv d n (({ p with back := [] } : Ply).put c) (if p.st.ct = 3 then t + 1 else t) := by
  have ho : p.st.over = false := by
    cases hh : p.st.over
    · rfl
    · rw [legal_over hh] at hc; simp at hc
  have hh := h.legal_sub hd hc
  have h52 := h.legal_52 hd hc
  refine ⟨by unfold Ply.doV; rw [ho, if_neg (by decide), if_pos ⟨h52, hc⟩], ?_⟩
  have hn4 := next_lt p.st
  have hn := h.next_pop
  have hld := h.ok.st.ld
  have hct := h.ok.st.ct
  have htn : t < n := by
    rcases Nat.lt_or_ge t n with h1 | h1
    · exact h1
    · have := h.over_iff.2 (by have := h.t_le; omega); rw [ho] at this; cases this
  have hhs : ∀ dn j, (p.st.put dn c).h j = if j = p.st.next then landn (p.st.h p.st.next) (shl1 c) else p.st.h j := by
    intro dn j; unfold PSt.put; split <;> rfl
  have hsub : ∀ dn j i, ((p.st.put dn c).h j).testBit i = true → (p.st.h j).testBit i = true := by
    intro dn j i; rw [hhs]; split
    next e => subst e; rw [testBit_landn, Bool.and_eq_true]; exact fun hq => hq.1
    next e => exact id
  have hm : p.steps.length < 60000 - p.back.length ∨ True := .inr trivial
  have hsl : p.steps.length ≤ 52 := by have h1 := h.many; have := hd.le; omega
  have hlen : (({ p with back := [] } : Ply).put c).steps = p.steps ++ [⟨p.st, c⟩] := rfl
  refine ⟨?_, ?_, ?_, ?_, ?_, ?_, ?_, ?_, ?_, ?_⟩
  · have := doV_ok h.ok c (by omega)
    unfold Ply.doV at this
    rw [ho, if_neg (by decide), if_pos ⟨h52, hc⟩] at this
    exact this
  · intro j i hi
    exact h.bit j i (hsub _ j i hi)
  · intro j hj
    show pop ((p.st.put p.dn c).h j) + _ + (if (j + 4 - (p.st.put p.dn c).ld) % 4 < (p.st.put p.dn c).ct then 1 else 0) = n
    have hj0 := h.hpop j hj
    have hpj : pop ((p.st.put p.dn c).h j) + (if j = p.st.next then 1 else 0) = pop (p.st.h j) := by
      rw [hhs]; split
      next e => subst e; exact pop_landn _ c (by omega) hh
      next e => rfl
    have hnx : j = p.st.next ↔ (j + 4 - p.st.ld) % 4 = p.st.ct := by unfold PSt.next; omega
    by_cases h3 : p.st.ct = 3
    · have hq : (p.st.put p.dn c).ct = 0 := by unfold PSt.put; rw [if_pos h3]
      rw [hq, if_pos h3, if_neg (Nat.not_lt_zero _)]
      by_cases hjn : j = p.st.next
      · rw [if_pos hjn] at hpj
        have := hnx.1 hjn
        rw [if_neg (by omega)] at hj0
        omega
      · rw [if_neg hjn] at hpj
        have : (j + 4 - p.st.ld) % 4 ≠ p.st.ct := fun e => hjn (hnx.2 e)
        rw [if_pos (by omega)] at hj0
        omega
    · have hq : (p.st.put p.dn c).ct = p.st.ct + 1 := by unfold PSt.put; rw [if_neg h3]
      have hl : (p.st.put p.dn c).ld = p.st.ld := by unfold PSt.put; rw [if_neg h3]
      rw [hq, hl, if_neg h3]
      by_cases hjn : j = p.st.next
      · rw [if_pos hjn] at hpj
        have := hnx.1 hjn
        rw [if_neg (by omega)] at hj0
        rw [if_pos (by omega)]
        omega
      · rw [if_neg hjn] at hpj
        have : (j + 4 - p.st.ld) % 4 ≠ p.st.ct := fun e => hjn (hnx.2 e)
        by_cases hlt : (j + 4 - p.st.ld) % 4 < p.st.ct
        · rw [if_pos hlt] at hj0; rw [if_pos (by omega)]; omega
        · rw [if_neg hlt] at hj0; rw [if_neg (by omega)]; omega
  · rw [hlen, List.length_append, h.many]
    show _ + 1 = 4 * (if p.st.ct = 3 then t + 1 else t) + (p.st.put p.dn c).ct
    unfold PSt.put
    split
    next h3 => show 4 * t + p.st.ct + 1 = 4 * (t + 1) + 0; omega
    next h3 => show 4 * t + p.st.ct + 1 = 4 * t + (p.st.ct + 1); omega
  · intro x hx j
    rw [hlen] at hx
    show ((p.st.put p.dn c).h j).testBit x.c = false
    rcases List.mem_append.1 hx with hx | hx
    · cases hb : ((p.st.put p.dn c).h j).testBit x.c
      · rfl
      · have := hsub _ j _ hb; rw [h.gone x hx j] at this; cases this
    · rw [List.mem_singleton.1 hx]
      show ((p.st.put p.dn c).h j).testBit c = false
      rw [hhs]; split
      next e => rw [testBit_landn, testBit_shl1]; simp; intro _; omega
      next e =>
        cases hb : (p.st.h j).testBit c
        · rfl
        · have := hd.apart _ _ c (fun e' => e e'.symm) (h.bit _ _ hh); rw [h.bit _ _ hb] at this; cases this
  · intro i hi
    rw [hlen]
    have hi' : i < (p.st.put p.dn c).ct := hi
    show ∃ x ∈ p.steps ++ [⟨p.st, c⟩], x.c = (p.st.put p.dn c).cs i
    by_cases h3 : p.st.ct = 3
    · unfold PSt.put at hi'; rw [if_pos h3] at hi'; exact absurd hi' (Nat.not_lt_zero _)
    · unfold PSt.put at hi' ⊢
      rw [if_neg h3] at hi' ⊢
      have hi'' : i < p.st.ct + 1 := hi'
      show ∃ x ∈ p.steps ++ [⟨p.st, c⟩], x.c = setH p.st.cs p.st.ct c i
      unfold setH
      by_cases he : i = p.st.ct
      · rw [if_pos he]; exact ⟨_, List.mem_append_right _ (List.mem_singleton.2 rfl), rfl⟩
      · rw [if_neg he]
        obtain ⟨x, hx, hxe⟩ := h.tr i (by omega)
        exact ⟨x, List.mem_append_left _ hx, hxe⟩
  · show (p.st.put p.dn c).trick.Nodup
    by_cases h3 : p.st.ct = 3
    · unfold PSt.put; rw [if_pos h3]; exact List.nodup_nil
    · have : (p.st.put p.dn c).trick = p.st.trick ++ [c] := by
        unfold PSt.put; rw [if_neg h3]
        show (List.range (p.st.ct + 1)).map (setH p.st.cs p.st.ct c) = _
        rw [List.range_succ, List.map_append]
        congr 1
        · refine List.map_congr_left fun i hi => ?_
          have := List.mem_range.1 hi
          unfold setH; rw [if_neg (by omega)]
        · simp [setH]
      rw [this]
      refine List.nodup_append.2 ⟨h.nd, by simp, fun a ha b hb => ?_⟩
      rw [List.mem_singleton.1 hb]
      rintro rfl
      rw [h.trickNo p.st.next _ ha] at hh; cases hh
  · intro j i hi
    rw [hlen]
    show ((p.st.put p.dn c).h j).testBit i = true ∨ _
    rcases h.cover j i hi with h1 | ⟨x, hx, e⟩
    · by_cases hic : i = c
      · exact .inr ⟨_, List.mem_append_right _ (List.mem_singleton.2 rfl), hic.symm⟩
      · left; rw [hhs]; split
        next e => subst e; rw [testBit_landn, testBit_shl1, h1]; simp; left; exact fun e => hic e.symm
        next e => exact h1
    · exact .inr ⟨x, List.mem_append_left _ hx, e⟩
  · intro x hx
    rw [hlen] at hx
    rcases List.mem_append.1 hx with hx | hx
    · exact h.part x hx
    · rw [List.mem_singleton.1 hx]; exact ⟨_, hn4, h.bit _ _ hh⟩
  · intro j hj
    show (p.st.put p.dn c).h j = 0
    rw [hhs, if_neg (by omega)]; exact h.far j hj
theorem made_deal4 (x : Mn) : Deal4 x.d x.each :=
  ⟨made_lt x, (made_deal x).apart, made_pop x, x.each_le.1, x.each_le.2, (made_deal x).far⟩
theorem PInv.new (x : Mn) : PInv x.d x.each (newP x.d x.lv x.dn x.rk x.dc) 0 := by
  refine ⟨newP_ok (made_w64 x) (made_new x), fun j c h => h, fun j hj => ?_, rfl, (fun y hy => by cases hy), (fun i hi => by cases hi), List.nodup_nil, fun j c h => .inl h, (fun y hy => by cases hy), (made_deal4 x).far⟩
  unfold newP
  simp only [Nat.not_lt_zero, if_false, Nat.add_zero]
  exact made_pop x j hj
end Go.Proofs.YtginbellakkliaaDoor
