/- RgA, RgB, RgC in one text. -/
import Derived.Test.YtikdkhiehfccpaaMPln
import Derived.BigQuiet
import Derived.Deep.CutRange

/- The reference of chapter 40 over this seat's program: within, fine, Right, points, Points, length. -/
namespace Go.Proofs.Ytikdkhiehfccpaa
open Go.RowKit Go.Sort Go.Shelf Cnt

theorem rf_within (x y g : Int) (w : World) : Calls Try.prog 70 #[pr x y, .int .i64 g] w fun e w' => e = .returned (.bool (ordB x y g)) ∧ Below w.heap.size w w' := by
  by_cases h1 : 0 ≤ x <;> by_cases h2 : x ≤ y <;> by_cases h3 : y ≤ g
  all_goals
    simp only [ordB, h1, h2, h3]
    go_enter Try.func70, Try.ntmps70
    go_wp2
    go_ret
    exact ⟨rfl, ((Below.refl _ _).alloc (Nat.le_refl _) _)⟩
theorem rf_points (c : Nat) (w : World) : Calls Try.prog 68 #[.int .i64 (c : Int)] w fun e w' => e = .returned (.int .i64 ((ptC (c % 13) : Nat) : Int)) ∧ w = w' := by
  have hm : (c : Int) % 13 = ((c % 13 : Nat) : Int) := by omega
  have hl : c % 13 < 13 := by omega
  generalize c % 13 = i at *
  have h5 : i = 12 ∨ i = 11 ∨ i = 10 ∨ i = 9 ∨ i ≤ 8 := by omega
  rcases h5 with rfl | rfl | rfl | rfl | h
  · go_enter Try.func68, Try.ntmps68
    go_wp2
    go_ret
    exact ⟨rfl, rfl⟩
  · go_enter Try.func68, Try.ntmps68
    go_wp2
    go_ret
    exact ⟨rfl, rfl⟩
  · go_enter Try.func68, Try.ntmps68
    go_wp2
    go_ret
    exact ⟨rfl, rfl⟩
  · go_enter Try.func68, Try.ntmps68
    go_wp2
    go_ret
    exact ⟨rfl, rfl⟩
  · have e0 : ptC i = 0 := by unfold ptC; omega
    have e1 : ((i : Int) == 12) = false := by simp; omega
    have e2 : ((i : Int) == 11) = false := by simp; omega
    have e3 : ((i : Int) == 10) = false := by simp; omega
    have e4 : ((i : Int) == 9) = false := by simp; omega
    rw [e0]
    go_enter Try.func68, Try.ntmps68
    go_wp2
    go_ret
    exact ⟨rfl, rfl⟩
theorem arr_lo (r : Rg) (k : Nat) (hk : k < 4) : r.arr[2 + k * 2]? = some (.int .i64 (r.lo k)) ∧ r.arr[2 + k * 2 + 1]? = some (.int .i64 (r.hi k)) := by
  have : k = 0 ∨ k = 1 ∨ k = 2 ∨ k = 3 := by omega
  rcases this with rfl | rfl | rfl | rfl <;> exact ⟨rfl, rfl⟩
set_option maxRecDepth 5000 in
theorem rf_fine (r : Rg) (w : World) : Calls Try.prog 60 #[r.v] w fun e w' => e = .returned (.bool r.ok) ∧ Below w.heap.size w w' := by
  go_enter Try.func60, Try.ntmps60
  go_wp2
  go_loopw [3] (fun i wr => ∃ (k : Nat), k ≤ 4 ∧ i = .int .i64 k ∧ r.okTo k = true ∧ Below w.heap.size w wr ∧ Row wr w.heap.size 53 r.arr) (fun i _ => 4 - (intOf i).toNat)
  case atStart => exact ⟨0, by omega, rfl, rfl, (Below.refl _ _).alloc (Nat.le_refl _) _, Row.new _ _ _⟩
  case round =>
    obtain ⟨k, hk, rfl, hok, hB, hr⟩ := hrel
    by_cases hlt : k < 4
    · have hd : decide ((k : Int) < 4) = true := by simp; omega
      have hx0 := (hr.cell (2 + k * 2)).trans (arr_lo r k hlt).1
      have hx1 := (hr.cell (2 + k * 2 + 1)).trans (arr_lo r k hlt).2
      have HR := Lib.hid hr
      have HB := Lib.hid hB
      clear hr hB
      have HSUC : Hid (r.okTo (k + 1) = (r.okTo k && ordB (r.lo k) (r.hi k) 13)) := Lib.hid rfl
      cases h0 : ordB (r.lo k) (r.hi k) 13
      · have HF := Lib.hid (Rg.ok_false hlt h0)
        go_wp2_with (go_at_call 70; refine (rf_within (r.lo k) (r.hi k) 13 _).mono ?_; rintro e w' ⟨rfl, hb1⟩; rw [h0]; have HB1 := Lib.hid (HB.out.trans (hb1.mono HB.out.size)); clear hb1)
        go_ret
        exact ⟨by rw [HF.out]; rfl, HB1.out⟩
      · go_wp2_with (go_at_call 70; refine (rf_within (r.lo k) (r.hi k) 13 _).mono ?_; rintro e w' ⟨rfl, hb1⟩; rw [h0]; have HB1 := Lib.hid (HB.out.trans (hb1.mono HB.out.size)); have HR1 := Lib.hid (HR.out.later hb1); clear hb1)
        go_roundw
        · exact ⟨k + 1, by omega, by simp, by rw [HSUC.out, hok, h0]; rfl, HB1.out, HR1.out⟩
        · simp [intOf]; omega
    · obtain rfl : k = 4 := by omega
      have HE : Hid (r.ok = ordB r.p0 r.p1 40) := Lib.hid (by simp [Rg.ok, hok])
      have hx0 := hr.cell 0
      have hx1 := hr.cell 1
      simp only [List.getElem?_toArray, List.getElem?_cons_zero, List.getElem?_cons_succ] at hx0 hx1
      have HB := Lib.hid hB
      clear hB hr
      go_wp2_with (go_at_call 70; refine (rf_within r.p0 r.p1 40 _).mono ?_; rintro e w' ⟨rfl, hb1⟩; have HB1 := Lib.hid (HB.out.trans (hb1.mono HB.out.size)); clear hb1)
      go_ret
      exact ⟨by rw [HE.out]; rfl, HB1.out⟩
theorem rf_Right (a : Option Addr) (len cap : Nat) (rs : List Rg) (w : World) (h : Rgs w a len rs) : Calls Try.prog 44 #[.slice a len cap] w fun e w' => e = .returned (.bool (rightV rs)) ∧ Below w.heap.size w w' := by
  have hlen := h.length
  have hsm := h.small
  by_cases h20 : 20 < len
  · have HF := Lib.hid (right_long (rs := rs) (by omega))
    clear hlen
    have d20 : decide (20 < (len : Int)) = true := by simp; omega
    go_enter Try.func44, Try.ntmps44
    go_wp2
    go_ret
    exact ⟨by rw [HF.out]; rfl, Below.refl _ _⟩
  · clear hlen
    have d20 : decide (20 < (len : Int)) = false := by simp; omega
    go_enter Try.func44, Try.ntmps44
    go_wp2
    go_loopw [3] (fun i wr => ∃ (k : Nat), k ≤ len ∧ i = .int .i64 k ∧ (rs.take k).all Rg.ok = true ∧ Below w.heap.size w wr) (fun i _ => len - (intOf i).toNat)
    case atStart => exact ⟨0, by omega, rfl, rfl, Below.refl _ _⟩
    case round =>
      obtain ⟨k, hk, rfl, hok, hB⟩ := hrel
      by_cases hlt : k < len
      · have hd : decide ((k : Int) < (len : Int)) = true := by simp; omega
        obtain ⟨b, off, r, rfl, hbl, hr, c0, c1, c2, c3, c4, c5, c6, c7, c8, c9⟩ := (h.below (Nat.le_refl _) hB).ten hlt
        cases h0 : r.ok
        · have HF := Lib.hid (right_bad hr h0)
          have HR := Lib.hid hr
          clear hr
          go_wp2_with (go_at_call 60; refine (rf_fine r _).mono ?_; rintro e w' ⟨rfl, hb1⟩; rw [h0])
          go_ret
          exact ⟨by rw [HF.out]; rfl, hB.trans (hb1.mono hB.size)⟩
        · have HN := Lib.hid (all_take_succ hr hok h0)
          have HR := Lib.hid hr
          clear hr
          go_wp2_with (go_at_call 60; refine (rf_fine r _).mono ?_; rintro e w' ⟨rfl, hb1⟩; rw [h0])
          go_roundw
          · exact ⟨k + 1, by omega, by simp, HN.out, hB.trans (hb1.mono hB.size)⟩
          · simp [intOf]; omega
      · obtain rfl : k = len := by omega
        have HE : Hid (rightV rs = true) := Lib.hid (by
          have hl := h.length
          rw [List.take_of_length_le (by omega)] at hok
          have : rs.length ≤ 20 := by omega
          simp only [rightV, hok, this, decide_true, Bool.and_self])
        go_wp2
        go_ret
        exact ⟨by rw [HE.out]; rfl, hB⟩
theorem pts_sum (h : Nat) : ptsM h = sumN 52 (fun j => if h.testBit j then ptC (j % 13) else 0) := by
  rw [pts_ft, ← PS_deck, PS_tot]
  rfl
theorem lens_sum (h s : Nat) : lensM h s = sumN 13 (fun i => if h.testBit (13 * s + i) then 1 else 0) := by
  unfold lensM
  rw [pop_13 (scards_lt h s)]
  unfold rksOf
  rw [← sum_ones, sum_range]
  exact sumN_congr fun i hi => by rw [scards_bit _ _ _ hi]
theorem shr_bit (h k : Nat) : ((shr h k : Nat) : Int) % 2 = ((bitAt h k : Nat) : Int) := by unfold shr bitAt; simp
theorem shr_odd (h k : Nat) : (((shr h k : Nat) : Int) % 2 == 1) = h.testBit k := by rw [shr_bit, bitAt_one]
theorem shr_even (h k : Nat) : (((shr h k : Nat) : Int) % 2 == 0) = !h.testBit k := by rw [shr_bit, bitAt_zero]
theorem rf_Points (h : Nat) (hh : W64 h) (w : World) : Calls Try.prog 64 #[.int .u64 (h : Int)] w fun e w' => e = .returned (.int .i64 ((ptsM h : Nat) : Int)) ∧ w = w' := by
  have HE := Lib.hid (pts_sum h)
  have HLE : Hid (∀ k, k ≤ 52 → sumN k (fun j => if h.testBit j then ptC (j % 13) else 0) ≤ 40) := Lib.hid fun k hk => by
    refine Nat.le_trans (sumN_mono _ hk) ?_
    rw [← pts_sum]
    exact ptA_le h 4
  go_enter Try.func64, Try.ntmps64
  go_wp2
  go_loopw [3, 4] (fun n i wr => ∃ (k : Nat), k ≤ 52 ∧ i = .int .i64 k ∧ n = .int .i64 ((sumN k (fun j => if h.testBit j then ptC (j % 13) else 0) : Nat) : Int) ∧ w = wr) (fun _ i _ => 52 - (intOf i).toNat)
  case atStart => exact ⟨0, by omega, rfl, rfl, rfl⟩
  case round =>
    obtain ⟨k, hk, rfl, rfl, rfl⟩ := hrel
    by_cases hlt : k < 52
    · have hd : decide ((k : Int) < 52) = true := by simp; omega
      have hle := HLE.out k hk
      have HS : Hid (∀ b, h.testBit k = b → sumN (k + 1) (fun j => if h.testBit j then ptC (j % 13) else 0) = sumN k (fun j => if h.testBit j then ptC (j % 13) else 0) + if b then ptC (k % 13) else 0) := Lib.hid (by rintro b rfl; rfl)
      have hp4 : ptC (k % 13) ≤ 12 := by unfold ptC; omega
      generalize sumN k (fun j => if h.testBit j then ptC (j % 13) else 0) = m at *
      have hbt := shr_odd h k
      cases h0 : h.testBit k
      all_goals rw [h0] at hbt
      · have H0 := Lib.hid h0
        go_wp2_with fail
        exact ⟨⟨k + 1, by omega, by simp, by rw [HS.out _ H0.out]; rfl, trivial⟩, by simp [intOf]; omega⟩
      · have H0 := Lib.hid h0
        go_wp2_with (go_at_call 68; refine (rf_points k _).mono ?_; rintro e w' ⟨rfl, rfl⟩)
        exact ⟨⟨k + 1, by omega, by simp, by rw [HS.out _ H0.out]; simp, trivial⟩, by simp [intOf]; omega⟩
    · obtain rfl : k = 52 := by omega
      go_wp2
      go_ret
      exact ⟨by rw [HE.out]; rfl, rfl⟩
theorem rf_length (h s : Nat) (hh : W64 h) (hs : s < 4) (w : World) : Calls Try.prog 65 #[.int .u64 (h : Int), .int .i64 (s : Int)] w fun e w' => e = .returned (.int .i64 ((lensM h s : Nat) : Int)) ∧ w = w' := by
  have HE := Lib.hid (lens_sum h s)
  have HLE : Hid (∀ k, k ≤ 13 → sumN k (fun i => if h.testBit (13 * s + i) then 1 else 0) ≤ 13) := Lib.hid fun k hk => by
    refine Nat.le_trans (sumN_mono _ hk) ?_
    rw [← lens_sum]
    unfold lensM
    rw [pop_13 (scards_lt h s)]
    exact rks_len _
  go_enter Try.func65, Try.ntmps65
  go_wp2
  go_loopw [5, 6] (fun n i wr => ∃ (k : Nat), k ≤ 13 ∧ i = .int .i64 ((13 * s + k : Nat) : Int) ∧ n = .int .i64 ((sumN k (fun i => if h.testBit (13 * s + i) then 1 else 0) : Nat) : Int) ∧ w = wr) (fun _ i _ => 13 * s + 13 - (intOf i).toNat)
  case atStart => exact ⟨0, by omega, by simp, rfl, rfl⟩
  case round =>
    obtain ⟨k, hk, rfl, rfl, rfl⟩ := hrel
    have hle := HLE.out k hk
    by_cases hlt : k < 13
    · have HS : Hid (∀ b, h.testBit (13 * s + k) = b → sumN (k + 1) (fun i => if h.testBit (13 * s + i) then 1 else 0) = sumN k (fun i => if h.testBit (13 * s + i) then 1 else 0) + if b then 1 else 0) := Lib.hid (by rintro b rfl; rfl)
      have HNX : Hid (13 * s + (k + 1) = 13 * s + k + 1) := Lib.hid rfl
      obtain ⟨c, hc⟩ : ∃ c, 13 * s + k = c := ⟨_, rfl⟩
      have hd : decide ((c : Int) < 13 * (s : Int) + 13) = true := by simp; omega
      have hcb : c < 64 := by omega
      rw [hc] at HS HNX
      rw [hc]
      have HC := Lib.hid hc
      clear hc
      generalize sumN k (fun i => if h.testBit (13 * s + i) then 1 else 0) = m at *
      have hbt := shr_odd h c
      cases h0 : h.testBit c
      all_goals rw [h0] at hbt
      · have H0 := Lib.hid h0
        go_wp2_with fail
        exact ⟨⟨k + 1, by omega, by rw [HNX.out]; simp, by rw [HS.out _ H0.out]; rfl, trivial⟩, by have := HC.out; simp [intOf]; omega⟩
      · have H0 := Lib.hid h0
        go_wp2_with fail
        exact ⟨⟨k + 1, by omega, by rw [HNX.out]; simp, by rw [HS.out _ H0.out]; simp, trivial⟩, by have := HC.out; simp [intOf]; omega⟩
    · obtain rfl : k = 13 := by omega
      have hd : decide (((13 * s + 13 : Nat) : Int) < 13 * (s : Int) + 13) = false := by simp
      go_wp2
      go_ret
      exact ⟨by rw [HE.out]; rfl, rfl⟩
end Go.Proofs.Ytikdkhiehfccpaa

/- The reference of chapter 40: in, Fits. -/
namespace Go.Proofs.Ytikdkhiehfccpaa
open Go.RowKit Go.Sort Go.Shelf Cnt

/-- in, range by range, suit by suit -/
def inTo (r : Rg) (p : Nat) (l : Nat → Nat) : Nat → Bool
  | 0 => wthn (p : Int) r.p0 r.p1
  | k + 1 => inTo r p l k && wthn (l k) (r.lo k) (r.hi k)
theorem inTo_four (r : Rg) (p : Nat) (l : Nat → Nat) : inTo r p l 4 = (r.long l && wthn (p : Int) r.p0 r.p1) := by
  simp only [inTo, Rg.long, Rg.longTo]
  generalize wthn (p : Int) r.p0 r.p1 = a
  generalize wthn (l 0 : Int) (r.lo 0) (r.hi 0) = b
  generalize wthn (l 1 : Int) (r.lo 1) (r.hi 1) = c
  generalize wthn (l 2 : Int) (r.lo 2) (r.hi 2) = d
  generalize wthn (l 3 : Int) (r.lo 3) (r.hi 3) = e
  cases a <;> cases b <;> cases c <;> cases d <;> cases e <;> rfl
theorem larr_get' (l : Nat → Nat) (k : Nat) (hk : k < 4) : (#[.int .i64 (l 0 : Int), .int .i64 (l 1 : Int), .int .i64 (l 2 : Int), .int .i64 (l 3 : Int)] : Array Value)[k]? = some (.int .i64 (l k : Int)) := by
  have : k = 0 ∨ k = 1 ∨ k = 2 ∨ k = 3 := by omega
  rcases this with rfl | rfl | rfl | rfl <;> rfl
theorem cell_lo (r : Rg) (k : Nat) (hk : k < 4) : r.cell (2 + k * 2) = r.lo k ∧ r.cell (2 + k * 2 + 1) = r.hi k := by
  have : k = 0 ∨ k = 1 ∨ k = 2 ∨ k = 3 := by omega
  rcases this with rfl | rfl | rfl | rfl <;> exact ⟨rfl, rfl⟩
theorem fitP_hit {rs : List Rg} {p : Nat} {l : Nat → Nat} {k : Nat} {r : Rg} (hr : rs[k]? = some r) (h : inTo r p l 4 = true) : fitP rs l p = true := by
  rw [inTo_four] at h
  exact List.any_eq_true.2 ⟨r, List.mem_of_getElem? hr, h⟩
theorem fitP_miss {rs : List Rg} {p : Nat} {l : Nat → Nat} {k : Nat} {r : Rg} (hr : rs[k]? = some r) (h0 : fitP (rs.take k) l p = false) (h : inTo r p l 4 = false) : fitP (rs.take (k + 1)) l p = false := by
  rw [inTo_four] at h
  unfold fitP at h0 ⊢
  exact any_take_succ (p := fun r : Rg => r.long l && wthn (p : Int) r.p0 r.p1) hr h0 h
set_option maxHeartbeats 4000000 in
theorem rf_in (a : Option Addr) (len cap : Nat) (rs : List Rg) (p : Nat) (l : Nat → Nat) (w : World) (h : Rgs w a len rs) : Calls Try.prog 63 #[.slice a len cap, .int .i64 (p : Int), len4 l] w fun e w' => e = .returned (.bool (fitP rs l p)) ∧ Below w.heap.size w w' := by
  have hsm := h.small
  have HH := Lib.hid h
  clear h
  go_enter Try.func63, Try.ntmps63
  go_wp2
  have hb0 : Below w.heap.size w (w.alloc (.cells #[.int .i64 (l 0 : Int), .int .i64 (l 1 : Int), .int .i64 (l 2 : Int), .int .i64 (l 3 : Int)] 111)) := (Below.refl _ _).alloc (Nat.le_refl _) _
  have hr0 := Row.new w 111 #[.int .i64 (l 0 : Int), .int .i64 (l 1 : Int), .int .i64 (l 2 : Int), .int .i64 (l 3 : Int)]
  go_loopw [7] (fun i wr => ∃ (k : Nat), k ≤ len ∧ i = .int .i64 k ∧ fitP (rs.take k) l p = false ∧ Below w.heap.size w wr ∧ Row wr w.heap.size 111 #[.int .i64 (l 0 : Int), .int .i64 (l 1 : Int), .int .i64 (l 2 : Int), .int .i64 (l 3 : Int)]) (fun i _ => len - (intOf i).toNat)
  case atStart => exact ⟨0, by omega, rfl, rfl, hb0, hr0⟩
  case round =>
    clear hb0 hr0
    obtain ⟨k, hk, rfl, hno, hB, hr⟩ := hrel
    by_cases hlt : k < len
    · have hd : decide ((k : Int) < (len : Int)) = true := by simp; omega
      have hki : (k : Int) < (len : Int) := by omega
      rcases (HH.out.below (Nat.le_refl _) hB).cells with h0 | ⟨b, off, rfl, hbl, hc⟩
      · omega
      obtain ⟨r, hrr⟩ : ∃ r, rs[k]? = some r := ⟨_, List.getElem?_eq_getElem (by have := HH.out.length; omega)⟩
      have c0 := hc k r hrr 0 (by decide)
      have c1 := hc k r hrr 1 (by decide)
      simp only [Rg.cell, Nat.add_zero] at c0 c1
      have HC := Lib.hid fun j hj => hc k r hrr j hj
      have HR := Lib.hid hr
      have HB := Lib.hid hB
      have HRR := Lib.hid hrr
      have HNO := Lib.hid hno
      clear hr hB hbl hc hrr hno
      have HT0 : Hid (∀ u v, decide (r.p0 ≤ (p : Int)) = u → decide ((p : Int) ≤ r.p1) = v → inTo r p l 0 = (u && v)) := Lib.hid (by rintro u v rfl rfl; rfl)
      by_cases hp0 : r.p0 ≤ (p : Int) <;> by_cases hp1 : (p : Int) ≤ r.p1
      all_goals
        have HT1 := Lib.hid (HT0.out _ _ (by first | exact decide_eq_true hp0 | exact decide_eq_false hp0) (by first | exact decide_eq_true hp1 | exact decide_eq_false hp1))
        have hq0 : decide (r.p0 ≤ (p : Int)) = _ := (by first | exact decide_eq_true hp0 | exact decide_eq_false hp0)
        have hq1 : decide ((p : Int) ≤ r.p1) = _ := (by first | exact decide_eq_true hp1 | exact decide_eq_false hp1)
        clear HT0
        go_wp2_with fail
        go_loopw [8, 9] (fun v x wr => ∃ (s : Nat), s ≤ 4 ∧ x = .int .i64 (s : Int) ∧ v = .bool (inTo r p l s) ∧ Below w.heap.size w wr ∧ Row wr w.heap.size 111 #[.int .i64 (l 0 : Int), .int .i64 (l 1 : Int), .int .i64 (l 2 : Int), .int .i64 (l 3 : Int)]) (fun _ x _ => 4 - (intOf x).toNat)
        case atStart => exact ⟨0, by omega, rfl, by rw [HT1.out]; rfl, HB.out, HR.out⟩
        case round =>
          obtain ⟨s, hs, rfl, rfl, hB2, hR2⟩ := hrel
          by_cases hlt2 : s < 4
          · have hd2 : decide ((s : Int) < 4) = true := by simp; omega
            have hs4 : (s : Int) < 4 := by omega
            rcases (HH.out.below (Nat.le_refl _) hB2).cells with h0 | ⟨b', off', e, hbl, hc⟩
            · omega
            obtain ⟨rfl, rfl⟩ : b = b' ∧ off = off' := by simpa using e
            have x0 := hc k r HRR.out (2 + s * 2) (by omega)
            have x1 := hc k r HRR.out (2 + s * 2 + 1) (by omega)
            rw [(cell_lo r s hlt2).1, show off + k * 10 + (2 + s * 2) = off + k * 10 + 2 + s * 2 by omega] at x0
            rw [(cell_lo r s hlt2).2, show off + k * 10 + (2 + s * 2 + 1) = off + k * 10 + 2 + s * 2 + 1 by omega] at x1
            have x2 := (hR2.cell s).trans (larr_get' l s hlt2)
            have y0 := fun dd os => cell_regrown x0 dd os
            have y1 := fun dd os => cell_regrown x1 dd os
            have y2 := fun dd os => cell_regrown x2 dd os
            have HB2 := Lib.hid hB2
            have HR2 := Lib.hid hR2
            clear e hbl hc hB2 hR2
            have HS : Hid (inTo r p l (s + 1) = (inTo r p l s && (decide (r.lo s ≤ (l s : Int)) && decide ((l s : Int) ≤ r.hi s)))) := Lib.hid rfl
            cases hv : inTo r p l s
            · rw [hv] at HS
              have HS2 : Hid (inTo r p l (s + 1) = false) := Lib.hid HS.out
              clear HS
              go_wp2_with fail
              refine wp_region_quiet_below (by kernel_rfl) (by kernel_rfl) ?_
              repeat (first | go_big_quiet_step (fail) | quiet_step (fail))
              refine wpQuiet_nil ?_
              rintro _ ⟨q, rfl⟩
              have hb := below_regrown wr q.d q.os
              have HB3 := Lib.hid (HB2.out.trans (hb.mono HB2.out.size))
              have HR3 := Lib.hid (HR2.out.later hb)
              generalize grow (redrawn wr q.d) q.os = wa at *
              clear hb
              go_wp2_with fail
              exact ⟨⟨s + 1, by omega, by simp, by rw [HS2.out], HB3.out, HR3.out⟩, by simp [intOf]; omega⟩
            · rw [hv, Bool.true_and] at HS
              generalize r.lo s = lo at *
              generalize r.hi s = hi at *
              generalize l s = ls at *
              by_cases q1 : lo ≤ (ls : Int) <;> by_cases q2 : (ls : Int) ≤ hi
              all_goals
                have e1 : decide (lo ≤ (ls : Int)) = _ := (by first | exact decide_eq_true q1 | exact decide_eq_false q1)
                have e2 : decide ((ls : Int) ≤ hi) = _ := (by first | exact decide_eq_true q2 | exact decide_eq_false q2)
                rw [e1, e2] at HS
                go_wp2_with fail
                refine wp_region_quiet_below (by kernel_rfl) (by kernel_rfl) ?_
                repeat (first | go_big_quiet_step (fail) | quiet_step (fail))
                refine wpQuiet_nil ?_
                rintro _ ⟨q, rfl⟩
                have hb := below_regrown wr q.d q.os
                have HB3 := Lib.hid (HB2.out.trans (hb.mono HB2.out.size))
                have HR3 := Lib.hid (HR2.out.later hb)
                generalize grow (redrawn wr q.d) q.os = wa at *
                clear hb
                go_wp2_with fail
                exact ⟨⟨s + 1, by omega, by simp, by rw [HS.out]; rfl, HB3.out, HR3.out⟩, by simp [intOf]; omega⟩
          · obtain rfl : s = 4 := by omega
            cases hv : inTo r p l 4
            · have HM := Lib.hid (fitP_miss HRR.out HNO.out hv)
              simp only [show ((4 : Nat) : Int) = 4 from rfl]
              have HB2 := Lib.hid hB2
              have HR2 := Lib.hid hR2
              go_wp2_with fail
              go_roundw
              · exact ⟨k + 1, by omega, by simp, HM.out, HB2.out, HR2.out⟩
              · simp [intOf]; omega
            · have HM := Lib.hid (fitP_hit HRR.out hv)
              have HB2 := Lib.hid hB2
              simp only [show ((4 : Nat) : Int) = 4 from rfl]
              go_wp2_with fail
              go_ret
              exact ⟨by rw [HM.out]; rfl, HB2.out⟩
    · obtain rfl : k = len := by omega
      have HE : Hid (fitP rs l p = false) := Lib.hid (by
        rw [List.take_of_length_le (by have := HH.out.length; omega)] at hno
        exact hno)
      have HB := Lib.hid hB
      go_wp2_with fail
      go_ret
      exact ⟨by rw [HE.out]; rfl, HB.out⟩
theorem rf_Fits (a : Option Addr) (len cap : Nat) (rs : List Rg) (h : Nat) (hh : W64 h) (w : World) (hr : Rgs w a len rs) : Calls Try.prog 53 #[.slice a len cap, .int .u64 (h : Int)] w fun e w' => e = .returned (.bool (fitsV rs h)) ∧ Below w.heap.size w w' := by
  have HE : Hid (fitsV rs h = fitP rs (lensM h) (ptsM h)) := Lib.hid (by
    rw [fits_ft, pts_ft]
    unfold fitP
    congr 1
    funext r
    rw [long_congr r (fun k hk => lens_ft h k hk)])
  rw [HE.out]
  have HR := Lib.hid hr
  clear hr
  go_enter Try.func53, Try.ntmps53
  go_wp2_with fail
  refine (rf_Points h hh _).mono ?_
  rintro e w' ⟨rfl, rfl⟩
  go_wp2_with fail
  refine (rf_length h 0 hh (by decide) _).mono ?_
  rintro e w' ⟨rfl, rfl⟩
  go_wp2_with fail
  refine (rf_length h 1 hh (by decide) _).mono ?_
  rintro e w' ⟨rfl, rfl⟩
  go_wp2_with fail
  refine (rf_length h 2 hh (by decide) _).mono ?_
  rintro e w' ⟨rfl, rfl⟩
  go_wp2_with fail
  refine (rf_length h 3 hh (by decide) _).mono ?_
  rintro e w' ⟨rfl, rfl⟩
  go_wp2_with fail
  refine (rf_in a len cap rs (ptsM h) (lensM h) _ HR.out).mono ?_
  rintro e w2 ⟨rfl, hb⟩
  have HB := Lib.hid hb
  go_wp2_with fail
  go_ret
  exact ⟨rfl, HB.out⟩
end Go.Proofs.Ytikdkhiehfccpaa

/- The reference of chapter 40: holdings. -/
namespace Go.Proofs.Ytikdkhiehfccpaa
open Go.RowKit Go.Sort Go.Shelf Cnt

/-- how many parts of a list have n members and p points -/
def cn (l : List Nat) (n p : Nat) : Nat := sumS l (fun n' p' => if n' = n ∧ p' = p then 1 else 0)
theorem cn_nil (n p : Nat) : cn [] n p = if n = 0 ∧ p = 0 then 1 else 0 := by
  show (if 0 = n ∧ 0 = p then 1 else 0) = _
  by_cases h : n = 0 ∧ p = 0
  · rw [if_pos h, if_pos ⟨h.1.symm, h.2.symm⟩]
  · rw [if_neg h, if_neg (fun e => h ⟨e.1.symm, e.2.symm⟩)]
theorem cn_snoc (l : List Nat) (x n p : Nat) : cn (l ++ [x]) n p = cn l n p + if 1 ≤ n ∧ x ≤ p then cn l (n - 1) (p - x) else 0 := by
  unfold cn
  rw [sumS_append]
  simp only [sumS, Nat.add_zero, Nat.zero_add]
  rw [sumS_add]
  congr 1
  by_cases h : 1 ≤ n ∧ x ≤ p
  · rw [if_pos h]
    refine sumS_congr fun n' p' => ?_
    by_cases e : n' = n - 1 ∧ p' = p - x
    · rw [if_pos e, if_pos (by omega)]
    · rw [if_neg e, if_neg (by omega)]
  · rw [if_neg h, sumS_congr (h := fun _ _ => 0) (fun n' p' => by rw [if_neg (by omega)]), sumS_zero]
theorem cn_le (l : List Nat) (n p : Nat) : cn l n p ≤ 2 ^ l.length := by
  induction l generalizing n p with
  | nil => rw [cn_nil]; split <;> simp
  | cons x l ih =>
    have h1 : cn (x :: l) n p = cn l n p + sumS l (fun n' p' => if n' + 1 = n ∧ x + p' = p then 1 else 0) := rfl
    have h2 : sumS l (fun n' p' => if n' + 1 = n ∧ x + p' = p then 1 else 0) ≤ 2 ^ l.length := by
      by_cases h : 1 ≤ n ∧ x ≤ p
      · rw [sumS_congr (h := fun n' p' => if n' = n - 1 ∧ p' = p - x then 1 else 0) (fun n' p' => by
          by_cases e : n' = n - 1 ∧ p' = p - x
          · rw [if_pos e, if_pos (by omega)]
          · rw [if_neg e, if_neg (by omega)])]
        exact ih _ _
      · rw [sumS_congr (h := fun _ _ => 0) (fun n' p' => by rw [if_neg (by omega)]), sumS_zero]
        exact Nat.zero_le _
    rw [h1, List.length_cons, Nat.pow_succ]
    have := ih n p
    omega
/-- the table of a suit's cards, the first j ranks -/
def ljTo (h s j : Nat) : List Nat := ((List.range j).filter fun i => h.testBit (13 * s + i)).map ptC
theorem ljTo_succ (h s j : Nat) : ljTo h s (j + 1) = ljTo h s j ++ if h.testBit (13 * s + j) then [ptC j] else [] := by
  unfold ljTo
  rw [List.range_succ, List.filter_append, List.map_append]
  congr 1
  cases e : h.testBit (13 * s + j) <;> simp [e]
theorem ljTo_len (h s j : Nat) : (ljTo h s j).length ≤ j := by
  unfold ljTo
  rw [List.length_map]
  exact Nat.le_trans (List.length_filter_le _ _) (by simp)
theorem ljTo_all (h s : Nat) : ljTo h s 13 = sufL (scards h s) := by
  rw [← rks_suf]
  unfold ljTo rksOf
  congr 1
  exact List.filter_congr fun i hi => by rw [scards_bit _ _ _ (by simpa using hi)]
theorem hold_cn (x n q : Nat) (hx : x < 8192) (hn : n < 14) (hq : q < 11) : holdV x (n * 11 + q) = cn (sufL x) n q := by
  unfold cn
  rw [← T2_hold x hx]
  unfold T2
  rw [sumN_one hn _ (fun i _ hne => by
    rw [sumN_congr (h := fun _ => 0) (fun q' _ => by dsimp only; rw [if_neg (by omega), Nat.mul_zero]), sumN_zero]), sumN_one hq _ (fun i _ hne => by dsimp only; rw [if_neg (by omega), Nat.mul_zero])]
  dsimp only
  rw [if_pos ⟨rfl, rfl⟩, Nat.mul_one]
def tabOf (l : List Nat) : Nat → Nat := fun i => cn l (i / 11) (i % 11)
theorem tab_hold (h s : Nat) : tab 154 (tabOf (ljTo h s 13)) = tab 154 (holdV (scards h s)) := tab_congr fun i hi => by
  unfold tabOf
  rw [ljTo_all, ← hold_cn _ _ _ (scards_lt h s) (by omega) (by omega)]
  congr 1
  omega
/-- while a card is being added: the entries before (n, m) are as they were -/
def upTo (l l' : List Nat) (n m : Nat) : Nat → Nat := fun i => if n < i / 11 ∨ (i / 11 = n ∧ m ≤ i % 11) then cn l' (i / 11) (i % 11) else cn l (i / 11) (i % 11)
theorem upTo_start (l l' : List Nat) : tab 154 (tabOf l) = tab 154 (upTo l l' 13 11) := tab_congr fun i hi => by
  unfold upTo tabOf
  rw [if_neg (by omega)]
theorem upTo_step (l : List Nat) (x n1 q : Nat) (hn : n1 + 1 < 14) (hp : q + x < 11) : tab 154 (bump (upTo l (l ++ [x]) (n1 + 1) (q + x + 1)) ((n1 + 1) * 11 + (q + x)) (cn l n1 q)) = tab 154 (upTo l (l ++ [x]) (n1 + 1) (q + x)) := tab_congr fun i hi => by
  unfold bump upTo
  by_cases e : i = (n1 + 1) * 11 + (q + x)
  · subst e
    have e1 : ((n1 + 1) * 11 + (q + x)) / 11 = n1 + 1 := by omega
    have e2 : ((n1 + 1) * 11 + (q + x)) % 11 = q + x := by omega
    rw [if_pos rfl, e1, e2, if_neg (by omega), if_pos (by omega), cn_snoc, if_pos (by omega)]
    congr 2
    omega
  · rw [if_neg e]
    by_cases h : n1 + 1 < i / 11 ∨ (i / 11 = n1 + 1 ∧ q + x + 1 ≤ i % 11)
    · rw [if_pos h, if_pos (by omega)]
    · rw [if_neg h, if_neg (by omega)]
theorem upTo_row (l : List Nat) (x n : Nat) : tab 154 (upTo l (l ++ [x]) (n + 1) x) = tab 154 (upTo l (l ++ [x]) n 11) := tab_congr fun i hi => by
  unfold upTo
  by_cases h1 : n + 1 < i / 11 ∨ (i / 11 = n + 1 ∧ x ≤ i % 11)
  · rw [if_pos h1, if_pos (by omega)]
  · rw [if_neg h1]
    by_cases h2 : n < i / 11 ∨ (i / 11 = n ∧ 11 ≤ i % 11)
    · rw [if_pos h2, cn_snoc, if_neg (by omega)]; rfl
    · rw [if_neg h2]
theorem upTo_end (l : List Nat) (x : Nat) : tab 154 (upTo l (l ++ [x]) 0 11) = tab 154 (tabOf (l ++ [x])) := tab_congr fun i hi => by
  unfold upTo tabOf
  by_cases h2 : 0 < i / 11 ∨ (i / 11 = 0 ∧ 11 ≤ i % 11)
  · rw [if_pos h2]
  · rw [if_neg h2, cn_snoc, if_neg (by omega)]; rfl
theorem upTo_old1 (l l' : List Nat) (n m p : Nat) (hp : p < m) (hp11 : p < 11) : upTo l l' n m (n * 11 + p) = cn l n p := by
  unfold upTo
  rw [show (n * 11 + p) / 11 = n by omega, show (n * 11 + p) % 11 = p by omega, if_neg (by omega)]
theorem upTo_old2 (l l' : List Nat) (n1 m q : Nat) (hq : q < 11) : upTo l l' (n1 + 1) m (n1 * 11 + q) = cn l n1 q := by
  unfold upTo
  rw [show (n1 * 11 + q) / 11 = n1 by omega, show (n1 * 11 + q) % 11 = q by omega, if_neg (by omega)]
theorem zero101 : ∀ w : World, (zeroValue 121).run Try.prog w = .ok (.agg (tab 154 fun _ => 0)) w := by
  have h : (Try.prog.info? 121).map (fun i => (i.zero, i.size)) = some (some (.agg (tab 154 fun _ => 0)), 154) := by kernel_rfl
  cases hq : Try.prog.info? 121 with
  | none => simp [hq] at h
  | some i =>
    simp [hq] at h
    intro w
    simp [zeroValue, typeInfo, hq, h.1]
theorem size101 : (Try.prog.info? 121).map (·.size) = some 154 := by kernel_rfl
theorem under101 : Try.prog.underlying 121 = some (.array 14 120) := by kernel_rfl
theorem tab_start : tab 154 (bump (fun _ => 0) 0 1) = tab 154 (tabOf []) := tab_congr fun i hi => by
  unfold bump tabOf
  rw [cn_nil]
  by_cases e : i = 0
  · subst e; rfl
  · rw [if_neg e, if_neg (by omega)]

set_option maxHeartbeats 4000000 in
theorem rf_holdings (h s : Nat) (hh : W64 h) (hs : s < 4) (w : World) : Calls Try.prog 56 #[.int .u64 (h : Int), .int .i64 (s : Int)] w fun e w' => e = .returned (.agg (tab 154 (holdV (scards h s)))) ∧ Below w.heap.size w w' := by
  have HT := Lib.hid (tab_hold h s)
  have hz := zero101
  go_enter Try.func56, Try.ntmps56
  go_wp2_with fail
  have hst : (tab 154 fun _ => 0).setIfInBounds 0 (Value.int .i64 1) = tab 154 (tabOf (ljTo h s 0)) := by
    have := tab_set 154 (fun _ => 0) 0 1
    rw [show ljTo h s 0 = [] from rfl, ← tab_start, ← this]
    rfl
  rw [hst]
  have hb0 : Below w.heap.size w ((w.alloc (.cells (tab 154 fun _ => 0) 121)).alloc (.cells (tab 154 (tabOf (ljTo h s 0))) 121)) := ((Below.refl _ _).alloc (Nat.le_refl _) _).alloc (by simp) _
  have hr0 : Row ((w.alloc (.cells (tab 154 fun _ => 0) 121)).alloc (.cells (tab 154 (tabOf (ljTo h s 0))) 121)) (w.heap.size + 1) 121 (tab 154 (tabOf (ljTo h s 0))) := Row.new1 _ _ _ _
  have hq0 : Row ((w.alloc (.cells (tab 154 fun _ => 0) 121)).alloc (.cells (tab 154 (tabOf (ljTo h s 0))) 121)) w.heap.size 121 (tab 154 fun _ => 0) := (Row.new _ _ _).alloc _
  clear hst
  have HCB : Hid (∀ j, j ≤ 13 → ∀ n p, cn (ljTo h s j) n p ≤ 8192) := Lib.hid fun j hj n p => Nat.le_trans (cn_le _ _ _) (Nat.le_trans (Nat.pow_le_pow_right (n := 2) (by decide) (show (ljTo h s j).length ≤ 13 by have := ljTo_len h s j; omega)) (by decide))
  go_loopw [6] (fun i wr => ∃ (j : Nat), j ≤ 13 ∧ i = .int .i64 ((13 * s + j : Nat) : Int) ∧ Below w.heap.size w wr ∧ Row wr (w.heap.size + 1) 121 (tab 154 (tabOf (ljTo h s j))) ∧ Row wr w.heap.size 121 (tab 154 fun _ => 0)) (fun i _ => 13 * s + 13 - (intOf i).toNat)
  case atStart => exact ⟨0, by omega, by simp, hb0, hr0, hq0⟩
  case round =>
    clear hb0 hr0 hq0
    obtain ⟨j, hj, rfl, hB, hR, hQ⟩ := hrel
    by_cases hlt : j < 13
    · have HSU := Lib.hid (ljTo_succ h s j)
      have HCJ := Lib.hid (HCB.out j hj)
      have HNX : Hid (13 * s + (j + 1) = 13 * s + j + 1) := Lib.hid rfl
      have hmod : (13 * s + j) % 13 = j := by omega
      obtain ⟨c, hc⟩ : ∃ c, 13 * s + j = c := ⟨_, rfl⟩
      have hd : decide ((c : Int) < 13 * (s : Int) + 13) = true := by simp; omega
      have hcb : c < 64 := by omega
      rw [hc] at HSU HNX hmod
      rw [hc]
      have HC := Lib.hid hc
      have HMOD := Lib.hid hmod
      clear hc hmod
      have hbt := shr_even h c
      cases h0 : h.testBit c
      · rw [h0] at hbt HSU
        have HSU2 : Hid (ljTo h s (j + 1) = ljTo h s j) := Lib.hid (by rw [HSU.out]; simp)
        have HB := Lib.hid hB
        have HR := Lib.hid hR
        have HQ := Lib.hid hQ
        clear hB hR hQ h0 HSU
        simp only [Bool.not_false] at hbt
        go_wp2_with fail
        exact ⟨⟨j + 1, by omega, by rw [HNX.out]; simp, HB.out, by rw [HSU2.out]; exact HR.out, HQ.out⟩, by have := HC.out; simp [intOf]; omega⟩
      · rw [h0, if_pos rfl] at HSU
        rw [h0] at hbt
        simp only [Bool.not_true] at hbt
        clear h0
        generalize ljTo h s j = l at *
        obtain ⟨x, Hx⟩ : ∃ x, Hid (ptC j = x) := ⟨_, Lib.hid rfl⟩
        rw [Hx.out] at HSU
        have hx4 : x ≤ 4 := by rw [← Hx.out]; unfold ptC; omega
        have HPT := Lib.hid fun w' => rf_points c w'
        rw [HMOD.out, Hx.out] at HPT
        rw [upTo_start l (l ++ [x])] at hR
        go_wp2_with fail
        go_loopw [7] (fun i wr => ∃ (n : Nat), n ≤ 13 ∧ i = .int .i64 (n : Int) ∧ Below w.heap.size w wr ∧ Row wr (w.heap.size + 1) 121 (tab 154 (upTo l (l ++ [x]) n 11)) ∧ Row wr w.heap.size 121 (tab 154 fun _ => 0)) (fun i _ => (intOf i).toNat)
        case atStart => exact ⟨13, by omega, rfl, hB, hR, hQ⟩
        case round =>
          clear hB hR hQ
          obtain ⟨n, hn, rfl, hB, hR, hQ⟩ := hrel
          rcases Nat.eq_zero_or_pos n with hz0 | hz0
          · subst hz0
            rw [upTo_end] at hR
            have HB := Lib.hid hB
            have HR := Lib.hid hR
            have HQ := Lib.hid hQ
            clear hB hR hQ
            simp only [show ((0 : Nat) : Int) = 0 from rfl]
            go_wp2_with fail
            go_roundw
            · exact ⟨j + 1, by omega, by rw [HNX.out]; simp, HB.out, by rw [HSU.out]; exact HR.out, HQ.out⟩
            · have := HC.out; simp [intOf]; omega
          · have hd2 : decide ((0 : Int) < (n : Int)) = true := by simp; omega
            go_wp2_with fail
            go_loopw [8] (fun i wr => ∃ (m : Nat), x ≤ m ∧ m ≤ 11 ∧ i = .int .i64 ((m : Int) - 1) ∧ Below w.heap.size w wr ∧ Row wr (w.heap.size + 1) 121 (tab 154 (upTo l (l ++ [x]) n m)) ∧ Row wr w.heap.size 121 (tab 154 fun _ => 0)) (fun i _ => (intOf i + 1).toNat)
            case atStart => exact ⟨11, by omega, by omega, rfl, hB, hR, hQ⟩
            case round =>
              clear hB hR hQ
              obtain ⟨m, hm1, hm2, rfl, hB, hR, hQ⟩ := hrel
              have HB := Lib.hid hB
              have HR := Lib.hid hR
              have HQ := Lib.hid hQ
              clear hB hR hQ
              go_wp2_with fail
              refine (HPT.out _).mono ?_
              rintro e w' ⟨rfl, rfl⟩
              rcases Nat.lt_or_ge x m with hxm | hxm
              · obtain ⟨P, hP⟩ : ∃ P, m = P + 1 := ⟨m - 1, by omega⟩
                have hmi : (m : Int) - 1 = (P : Int) := by omega
                rw [hmi]
                obtain ⟨n1, hn1⟩ : ∃ n1, n = n1 + 1 := ⟨n - 1, by omega⟩
                obtain ⟨q, hq⟩ : ∃ q, P = q + x := ⟨P - x, by omega⟩
                have e1 : upTo l (l ++ [x]) n m (n * 11 + P) = cn l n P := upTo_old1 l _ n m P (by omega) (by omega)
                have e2 : upTo l (l ++ [x]) n m (n1 * 11 + q) = cn l n1 q := by rw [hn1]; exact upTo_old2 l _ n1 m q (by omega)
                have hbump : tab 154 (bump (upTo l (l ++ [x]) n m) (n * 11 + P) (cn l n1 q)) = tab 154 (upTo l (l ++ [x]) n P) := by
                  rw [hn1, hP, hq]
                  exact upTo_step l x n1 q (by omega) (by omega)
                have c1 := (HR.out.cell (n * 11 + P)).trans (tab_get 154 _ _ (by omega))
                have c2 := (HR.out.cell (n1 * 11 + q)).trans (tab_get 154 _ _ (by omega))
                rw [e1] at c1
                rw [e2] at c2
                have HST : Hid (∀ W, Row W (w.heap.size + 1) 121 (tab 154 (upTo l (l ++ [x]) n m)) → Row (W.setCell ⟨w.heap.size + 1, n * 11 + P, none⟩ (.int .i64 ((cn l n P : Int) + (cn l n1 q : Int)))) (w.heap.size + 1) 121 (tab 154 (upTo l (l ++ [x]) n P))) := Lib.hid fun W hW => by
                  have := hW.set (n * 11 + P) (.int .i64 ((upTo l (l ++ [x]) n m (n * 11 + P) + cn l n1 q : Nat) : Int))
                  rw [tab_set, hbump, e1] at this
                  simpa using this
                have hva := HCJ.out n P
                have hvb := HCJ.out n1 q
                generalize cn l n P = va at *
                generalize cn l n1 q = vb at *
                have hnn1 : IntKind.i64.wrap ((n : Int) - 1) = (n1 : Int) := by rw [IntWalk.i64_in _ (by omega)]; omega
                have hnn2 : (n : Int) - 1 = (n1 : Int) := by omega
                have hPq : IntKind.i64.wrap ((P : Int) - (x : Int)) = (q : Int) := by rw [IntWalk.i64_in _ (by omega)]; omega
                have hPq2 : (P : Int) - (x : Int) = (q : Int) := by omega
                have hsum : IntKind.i64.wrap ((va : Int) + (vb : Int)) = (va : Int) + (vb : Int) := IntWalk.i64_in _ (by omega)
                have b1 : n < 14 := by omega
                have b2 : n1 < 14 := by omega
                have b3 : P < 11 := by omega
                have b4 : q < 11 := by omega
                have b1i : (n : Int) < 14 := by omega
                have b2i : (n1 : Int) < 14 := by omega
                have b3i : (P : Int) < 11 := by omega
                have b4i : (q : Int) < 11 := by omega
                have hcond : decide ((x : Int) ≤ (P : Int)) = true := by simp; omega
                have r1 := fun dd os => cell_regrown c1 dd os
                have r2 := fun dd os => cell_regrown c2 dd os
                have HPX := Lib.hid (And.intro hP hq)
                clear e1 e2 hbump hP hq hmi hn1 hva hvb
                go_wp2_with fail
                refine wp_region_below_tail 19 (by kernel_rfl) (by kernel_rfl) ?_
                simp only [List.take_succ_cons, List.take_zero, List.drop_succ_cons, List.drop_zero]
                repeat (first | go_big_quiet_step ((exact Calls.regrown_of ((HPT.out _).mono fun _ _ ⟨he, hw⟩ => ⟨he, hw ▸ Below.refl _ _⟩))) | quiet_step ((exact Calls.regrown_of ((HPT.out _).mono fun _ _ ⟨he, hw⟩ => ⟨he, hw ▸ Below.refl _ _⟩))))
                refine wpQuiet_nil ?_
                rintro _ ⟨p, rfl⟩
                have hb := below_regrown wr p.d p.os
                have hR2 := HR.out.later hb
                have hQ2 := HQ.out.later hb
                have HB2 := Lib.hid (HB.out.trans (hb.mono HB.out.size))
                have HPT2 := HPT
                generalize grow (redrawn wr p.d) p.os = wa at *
                have c3 := hR2.cell (n * 11 + P)
                have f3 := hR2.frozen (n * 11 + P)
                have c4 : wa.cell? ⟨w.heap.size + 1, n * 11 + P, none⟩ = some (.int .i64 (va : Int)) := by
                  rw [c3, ← HR.out.cell]; exact c1
                have HN := Lib.hid (HST.out wa hR2)
                have HQ2 := Lib.hid (hQ2.other (i := n * 11 + P) (v := .int .i64 ((va : Int) + (vb : Int))) (show w.heap.size ≠ w.heap.size + 1 by omega))
                clear hb r1 r2 c1 c2 c3 hR2 hQ2 hnn1 hnn2 hPq hPq2
                go_wp2_with fail
                go_roundw
                · exact ⟨P, by have := HPX.out; omega, by have := HPX.out; omega, rfl, HB2.out.setCell (by show w.heap.size ≤ w.heap.size + 1; omega) _, HN.out, HQ2.out⟩
                · have := HPX.out; simp [intOf]; omega
              · obtain rfl : m = x := by omega
                obtain ⟨n1, hn1⟩ : ∃ n1, n = n1 + 1 := ⟨n - 1, by omega⟩
                have HRN : Hid (Row wr (w.heap.size + 1) 121 (tab 154 (upTo l (l ++ [m]) n1 11))) := Lib.hid (by
                  have := HR.out
                  rwa [hn1, upTo_row] at this)
                have hcond : decide ((m : Int) ≤ (m : Int) - 1) = false := by simp; omega
                have hnn2 : (n : Int) - 1 = (n1 : Int) := by omega
                have HNN := Lib.hid hn1
                clear hn1
                go_wp2_with fail
                go_roundw
                · exact ⟨n1, by have := HNN.out; omega, by simp, HB.out, HRN.out, HQ.out⟩
                · have := HNN.out; simp [intOf]; omega
    · obtain rfl : j = 13 := by omega
      have hd : decide (((13 * s + 13 : Nat) : Int) < 13 * (s : Int) + 13) = false := by simp
      rw [HT.out] at hR
      have HB := Lib.hid hB
      have HR := Lib.hid hR
      have HQ := Lib.hid hQ
      clear hB hR hQ hz
      go_wp2_with (first | refine wpList_load_row rfl 121 (.tmp 5) rfl (w.heap.size + 1) rfl 121 (tab 154 (holdV (scards h s))) (0, 0) _ HR.out under101 rfl (by rw [size101, tab_size]) ?_ | refine wpList_store_row rfl 121 (.tmp 4) (.tmp 54) rfl w.heap.size (tab 154 (holdV (scards h s))) rfl rfl 121 _ HQ.out (by rw [size101, tab_size]) (by rw [tab_size, tab_size]) (tab_one _ _) ?_)
      refine bodyPost_ret (results_cell_row (p := 4) rfl _ _ w.heap.size _ (tab 154 (holdV (scards h s))) (0, 0) _ rfl (setRow_heap _ _ _ _ _ _ HQ.out) under101 rfl (by rw [size101, tab_size])) rfl ⟨rfl, below_setRow HB.out (Nat.le_refl _) _⟩
end Go.Proofs.Ytikdkhiehfccpaa
