/- The reference of chapter 40 over this seat's program: within, fine, Right, points, Points, length, counted. -/
import Derived.Test.YtmkplfndbjcflaaPlG
namespace Go.Proofs.Ytmkplfndbjcflaa
open Go.RowKit Go.Sort Go.Shelf Cnt

theorem rf_within (x y g : Int) (w : World) : Calls Try.prog 62 #[pr x y, .int .i64 g] w fun e w' => e = .returned (.bool (ordB x y g)) ∧ Below w.heap.size w w' := by
  by_cases h1 : 0 ≤ x <;> by_cases h2 : x ≤ y <;> by_cases h3 : y ≤ g
  all_goals
    simp only [ordB, h1, h2, h3]
    go_enter Try.func62, Try.ntmps62
    go_wp2
    go_ret
    exact ⟨rfl, ((Below.refl _ _).alloc (Nat.le_refl _) _)⟩
theorem rf_points (c : Nat) (w : World) : Calls Try.prog 54 #[.int .i64 (c : Int)] w fun e w' => e = .returned (.int .i64 ((ptC (c % 13) : Nat) : Int)) ∧ w = w' := by
  have hm : (c : Int) % 13 = ((c % 13 : Nat) : Int) := by omega
  have hl : c % 13 < 13 := by omega
  generalize c % 13 = i at *
  have h5 : i = 12 ∨ i = 11 ∨ i = 10 ∨ i = 9 ∨ i ≤ 8 := by omega
  rcases h5 with rfl | rfl | rfl | rfl | h
  · go_enter Try.func54, Try.ntmps54
    go_wp2
    go_ret
    exact ⟨rfl, rfl⟩
  · go_enter Try.func54, Try.ntmps54
    go_wp2
    go_ret
    exact ⟨rfl, rfl⟩
  · go_enter Try.func54, Try.ntmps54
    go_wp2
    go_ret
    exact ⟨rfl, rfl⟩
  · go_enter Try.func54, Try.ntmps54
    go_wp2
    go_ret
    exact ⟨rfl, rfl⟩
  · have e0 : ptC i = 0 := by unfold ptC; omega
    have e1 : ((i : Int) == 12) = false := by simp; omega
    have e2 : ((i : Int) == 11) = false := by simp; omega
    have e3 : ((i : Int) == 10) = false := by simp; omega
    have e4 : ((i : Int) == 9) = false := by simp; omega
    rw [e0]
    go_enter Try.func54, Try.ntmps54
    go_wp2
    go_ret
    exact ⟨rfl, rfl⟩
theorem rf_counted (h : Nat) (n : Int) (w : World) : Calls Try.prog 46 #[.int .u64 (h : Int), .int .i64 n] w fun e w' => e = .returned (.bool (legalB h n)) ∧ w = w' := by
  have e1 : decide ((h : Int) < 4503599627370496) = decide (h < 4503599627370496) := by rw [decide_eq_decide]; omega
  unfold legalB
  rw [← e1]
  by_cases h1 : 0 ≤ n <;> by_cases h2 : n ≤ 13 <;> by_cases h3 : (h : Int) < 4503599627370496
  all_goals
    simp only [h1, h2, h3]
    go_enter Try.func46, Try.ntmps46
    go_wp2
    go_ret
    exact ⟨by simp, rfl⟩
theorem arr_lo (r : Rg) (k : Nat) (hk : k < 4) : r.arr[2 + k * 2]? = some (.int .i64 (r.lo k)) ∧ r.arr[2 + k * 2 + 1]? = some (.int .i64 (r.hi k)) := by
  have : k = 0 ∨ k = 1 ∨ k = 2 ∨ k = 3 := by omega
  rcases this with rfl | rfl | rfl | rfl <;> exact ⟨rfl, rfl⟩
set_option maxRecDepth 5000 in
theorem rf_fine (r : Rg) (w : World) : Calls Try.prog 45 #[r.v] w fun e w' => e = .returned (.bool r.ok) ∧ Below w.heap.size w w' := by
  go_enter Try.func45, Try.ntmps45
  go_wp2
  go_loopw [3] (fun i wr => ∃ (k : Nat), k ≤ 4 ∧ i = .int .i64 k ∧ r.okTo k = true ∧ Below w.heap.size w wr ∧ Row wr w.heap.size 56 r.arr) (fun i _ => 4 - (intOf i).toNat)
  case atStart => exact ⟨0, by omega, rfl, rfl, (Below.refl _ _).alloc (Nat.le_refl _) _, Row.new _ _ _⟩
  case round =>
    obtain ⟨k, hk, rfl, hok, hB, hr⟩ := hrel
    by_cases hlt : k < 4
    · have hd : decide ((k : Int) < 4) = true := by simp; omega
      have hx0 := (hr.cell (2 + k * 2)).trans (arr_lo r k hlt).1
      have hx1 := (hr.cell (2 + k * 2 + 1)).trans (arr_lo r k hlt).2
      have HR := Lib.hid hr
      have HB := Lib.hid hB
      clear hr hB
      have HSUC : Hid (r.okTo (k + 1) = (r.okTo k && ordB (r.lo k) (r.hi k) 13)) := Lib.hid rfl
      cases h0 : ordB (r.lo k) (r.hi k) 13
      · have HF := Lib.hid (Rg.ok_false hlt h0)
        go_wp2_with (go_at_call 62; refine (rf_within (r.lo k) (r.hi k) 13 _).mono ?_; rintro e w' ⟨rfl, hb1⟩; rw [h0]; have HB1 := Lib.hid (HB.out.trans (hb1.mono HB.out.size)); clear hb1)
        go_ret
        exact ⟨by rw [HF.out]; rfl, HB1.out⟩
      · go_wp2_with (go_at_call 62; refine (rf_within (r.lo k) (r.hi k) 13 _).mono ?_; rintro e w' ⟨rfl, hb1⟩; rw [h0]; have HB1 := Lib.hid (HB.out.trans (hb1.mono HB.out.size)); have HR1 := Lib.hid (HR.out.later hb1); clear hb1)
        go_roundw
        · exact ⟨k + 1, by omega, by simp, by rw [HSUC.out, hok, h0]; rfl, HB1.out, HR1.out⟩
        · simp [intOf]; omega
    · obtain rfl : k = 4 := by omega
      have HE : Hid (r.ok = ordB r.p0 r.p1 40) := Lib.hid (by simp [Rg.ok, hok])
      have hx0 := hr.cell 0
      have hx1 := hr.cell 1
      simp only [List.getElem?_toArray, List.getElem?_cons_zero, List.getElem?_cons_succ] at hx0 hx1
      have HB := Lib.hid hB
      clear hB hr
      go_wp2_with (go_at_call 62; refine (rf_within r.p0 r.p1 40 _).mono ?_; rintro e w' ⟨rfl, hb1⟩; have HB1 := Lib.hid (HB.out.trans (hb1.mono HB.out.size)); clear hb1)
      go_ret
      exact ⟨by rw [HE.out]; rfl, HB1.out⟩
theorem rf_Right (a : Option Addr) (len cap : Nat) (rs : List Rg) (w : World) (h : Rgs w a len rs) : Calls Try.prog 34 #[.slice a len cap] w fun e w' => e = .returned (.bool (rightV rs)) ∧ Below w.heap.size w w' := by
  have hlen := h.length
  have hsm := h.small
  by_cases h20 : 20 < len
  · have HF := Lib.hid (right_long (rs := rs) (by omega))
    clear hlen
    have d20 : decide (20 < (len : Int)) = true := by simp; omega
    go_enter Try.func34, Try.ntmps34
    go_wp2
    go_ret
    exact ⟨by rw [HF.out]; rfl, Below.refl _ _⟩
  · clear hlen
    have d20 : decide (20 < (len : Int)) = false := by simp; omega
    go_enter Try.func34, Try.ntmps34
    go_wp2
    go_loopw [3] (fun i wr => ∃ (k : Nat), k ≤ len ∧ i = .int .i64 k ∧ (rs.take k).all Rg.ok = true ∧ Below w.heap.size w wr) (fun i _ => len - (intOf i).toNat)
    case atStart => exact ⟨0, by omega, rfl, rfl, Below.refl _ _⟩
    case round =>
      obtain ⟨k, hk, rfl, hok, hB⟩ := hrel
      by_cases hlt : k < len
      · have hd : decide ((k : Int) < (len : Int)) = true := by simp; omega
        obtain ⟨b, off, r, rfl, hbl, hr, c0, c1, c2, c3, c4, c5, c6, c7, c8, c9⟩ := (h.below (Nat.le_refl _) hB).ten hlt
        cases h0 : r.ok
        · have HF := Lib.hid (right_bad hr h0)
          have HR := Lib.hid hr
          clear hr
          go_wp2_with (go_at_call 45; refine (rf_fine r _).mono ?_; rintro e w' ⟨rfl, hb1⟩; rw [h0])
          go_ret
          exact ⟨by rw [HF.out]; rfl, hB.trans (hb1.mono hB.size)⟩
        · have HN := Lib.hid (all_take_succ hr hok h0)
          have HR := Lib.hid hr
          clear hr
          go_wp2_with (go_at_call 45; refine (rf_fine r _).mono ?_; rintro e w' ⟨rfl, hb1⟩; rw [h0])
          go_roundw
          · exact ⟨k + 1, by omega, by simp, HN.out, hB.trans (hb1.mono hB.size)⟩
          · simp [intOf]; omega
      · obtain rfl : k = len := by omega
        have HE : Hid (rightV rs = true) := Lib.hid (by
          have hl := h.length
          rw [List.take_of_length_le (by omega)] at hok
          have : rs.length ≤ 20 := by omega
          simp only [rightV, hok, this, decide_true, Bool.and_self])
        go_wp2
        go_ret
        exact ⟨by rw [HE.out]; rfl, hB⟩
theorem pts_sum (h : Nat) : ptsM h = sumN 52 (fun j => if h.testBit j then ptC (j % 13) else 0) := by
  rw [pts_ft, ← PS_deck, PS_tot]
  rfl
theorem lens_sum (h s : Nat) : lensM h s = sumN 13 (fun i => if h.testBit (13 * s + i) then 1 else 0) := by
  unfold lensM
  rw [pop_13 (scards_lt h s)]
  unfold rksOf
  rw [← sum_ones, sum_range]
  exact sumN_congr fun i hi => by rw [scards_bit _ _ _ hi]
theorem shr_bit (h k : Nat) : ((shr h k : Nat) : Int) % 2 = ((bitAt h k : Nat) : Int) := by unfold shr bitAt; simp
theorem shr_odd (h k : Nat) : (((shr h k : Nat) : Int) % 2 == 1) = h.testBit k := by rw [shr_bit, bitAt_one]
theorem shr_even (h k : Nat) : (((shr h k : Nat) : Int) % 2 == 0) = !h.testBit k := by rw [shr_bit, bitAt_zero]
theorem rf_Points (h : Nat) (hh : W64 h) (w : World) : Calls Try.prog 35 #[.int .u64 (h : Int)] w fun e w' => e = .returned (.int .i64 ((ptsM h : Nat) : Int)) ∧ w = w' := by
  have HE := Lib.hid (pts_sum h)
  have HLE : Hid (∀ k, k ≤ 52 → sumN k (fun j => if h.testBit j then ptC (j % 13) else 0) ≤ 40) := Lib.hid fun k hk => by
    refine Nat.le_trans (sumN_mono _ hk) ?_
    rw [← pts_sum]
    exact ptA_le h 4
  go_enter Try.func35, Try.ntmps35
  go_wp2
  go_loopw [3, 4] (fun n i wr => ∃ (k : Nat), k ≤ 52 ∧ i = .int .i64 k ∧ n = .int .i64 ((sumN k (fun j => if h.testBit j then ptC (j % 13) else 0) : Nat) : Int) ∧ w = wr) (fun _ i _ => 52 - (intOf i).toNat)
  case atStart => exact ⟨0, by omega, rfl, rfl, rfl⟩
  case round =>
    obtain ⟨k, hk, rfl, rfl, rfl⟩ := hrel
    by_cases hlt : k < 52
    · have hd : decide ((k : Int) < 52) = true := by simp; omega
      have hle := HLE.out k hk
      have HS : Hid (∀ b, h.testBit k = b → sumN (k + 1) (fun j => if h.testBit j then ptC (j % 13) else 0) = sumN k (fun j => if h.testBit j then ptC (j % 13) else 0) + if b then ptC (k % 13) else 0) := Lib.hid (by rintro b rfl; rfl)
      have hp4 : ptC (k % 13) ≤ 12 := by unfold ptC; omega
      generalize sumN k (fun j => if h.testBit j then ptC (j % 13) else 0) = m at *
      have hbt := shr_odd h k
      cases h0 : h.testBit k
      all_goals rw [h0] at hbt
      · have H0 := Lib.hid h0
        go_wp2_with fail
        exact ⟨⟨k + 1, by omega, by simp, by rw [HS.out _ H0.out]; rfl, trivial⟩, by simp [intOf]; omega⟩
      · have H0 := Lib.hid h0
        go_wp2_with (go_at_call 54; refine (rf_points k _).mono ?_; rintro e w' ⟨rfl, rfl⟩)
        exact ⟨⟨k + 1, by omega, by simp, by rw [HS.out _ H0.out]; simp, trivial⟩, by simp [intOf]; omega⟩
    · obtain rfl : k = 52 := by omega
      go_wp2
      go_ret
      exact ⟨by rw [HE.out]; rfl, rfl⟩
theorem rf_length (h s : Nat) (hh : W64 h) (hs : s < 4) (w : World) : Calls Try.prog 55 #[.int .u64 (h : Int), .int .i64 (s : Int)] w fun e w' => e = .returned (.int .i64 ((lensM h s : Nat) : Int)) ∧ w = w' := by
  have HE := Lib.hid (lens_sum h s)
  have HLE : Hid (∀ k, k ≤ 13 → sumN k (fun i => if h.testBit (13 * s + i) then 1 else 0) ≤ 13) := Lib.hid fun k hk => by
    refine Nat.le_trans (sumN_mono _ hk) ?_
    rw [← lens_sum]
    unfold lensM
    rw [pop_13 (scards_lt h s)]
    exact rks_len _
  go_enter Try.func55, Try.ntmps55
  go_wp2
  go_loopw [5, 6] (fun n i wr => ∃ (k : Nat), k ≤ 13 ∧ i = .int .i64 ((13 * s + k : Nat) : Int) ∧ n = .int .i64 ((sumN k (fun i => if h.testBit (13 * s + i) then 1 else 0) : Nat) : Int) ∧ w = wr) (fun _ i _ => 13 * s + 13 - (intOf i).toNat)
  case atStart => exact ⟨0, by omega, by simp, rfl, rfl⟩
  case round =>
    obtain ⟨k, hk, rfl, rfl, rfl⟩ := hrel
    have hle := HLE.out k hk
    by_cases hlt : k < 13
    · have HS : Hid (∀ b, h.testBit (13 * s + k) = b → sumN (k + 1) (fun i => if h.testBit (13 * s + i) then 1 else 0) = sumN k (fun i => if h.testBit (13 * s + i) then 1 else 0) + if b then 1 else 0) := Lib.hid (by rintro b rfl; rfl)
      have HNX : Hid (13 * s + (k + 1) = 13 * s + k + 1) := Lib.hid rfl
      obtain ⟨c, hc⟩ : ∃ c, 13 * s + k = c := ⟨_, rfl⟩
      have hd : decide ((c : Int) < 13 * (s : Int) + 13) = true := by simp; omega
      have hcb : c < 64 := by omega
      rw [hc] at HS HNX
      rw [hc]
      have HC := Lib.hid hc
      clear hc
      generalize sumN k (fun i => if h.testBit (13 * s + i) then 1 else 0) = m at *
      have hbt := shr_odd h c
      cases h0 : h.testBit c
      all_goals rw [h0] at hbt
      · have H0 := Lib.hid h0
        go_wp2_with fail
        exact ⟨⟨k + 1, by omega, by rw [HNX.out]; simp, by rw [HS.out _ H0.out]; rfl, trivial⟩, by have := HC.out; simp [intOf]; omega⟩
      · have H0 := Lib.hid h0
        go_wp2_with fail
        exact ⟨⟨k + 1, by omega, by rw [HNX.out]; simp, by rw [HS.out _ H0.out]; simp, trivial⟩, by have := HC.out; simp [intOf]; omega⟩
    · obtain rfl : k = 13 := by omega
      have hd : decide (((13 * s + 13 : Nat) : Int) < 13 * (s : Int) + 13) = false := by simp
      go_wp2
      go_ret
      exact ⟨by rw [HE.out]; rfl, rfl⟩
end Go.Proofs.Ytmkplfndbjcflaa
