/- Contract of finesseref11.Cover over this seat's program. -/
import Derived.Test.YthilcnhnfdddhaaDoorRefE
namespace Go.Proofs.YthilcnhnfdddhaaDoor
open Go.RowKit Go.Sort Go.Shelf

/-- the bits of m below k, the least first -/
def upTo (m k : Nat) : List Nat := (List.range k).filter fun i => m.testBit i
theorem upTo_succ (m k : Nat) : upTo m (k + 1) = if m.testBit k then upTo m k ++ [k] else upTo m k := by
  unfold upTo
  rw [List.range_succ, List.filter_append, List.filter_cons]
  cases m.testBit k <;> simp
theorem upTo_vals (m : Nat) : vals (bitsList m) = upTo m 64 := by
  unfold vals bitsList upTo
  have h1 : ((List.finRange 64).filter fun i => m.testBit i.val).map (·.val) = ((List.finRange 64).map (·.val)).filter fun i => m.testBit i := by rw [List.filter_map]; rfl
  have h2 : (List.finRange 64).map (·.val) = List.range 64 := by decide
  exact h1.trans (by rw [h2])
theorem upTo_stop {m n : Nat} (hm : m < 2 ^ n) : ∀ k, upTo m (n + k) = upTo m n
  | 0 => rfl
  | k + 1 => by
    have : m.testBit (n + k) = false := Nat.testBit_lt_two_pow (Nat.lt_of_lt_of_le hm (Nat.pow_le_pow_right (by decide) (by omega)))
    rw [← Nat.add_assoc, upTo_succ, this]
    exact upTo_stop hm k
theorem vals_52 {m : Nat} (hm : m < 2 ^ 52) : vals (bitsList m) = upTo m 52 := by rw [upTo_vals]; exact upTo_stop hm 12
theorem upTo_mem {m k c : Nat} (h : c ∈ upTo m k) : c < k := by
  unfold upTo at h; rw [List.mem_filter, List.mem_range] at h; exact h.1

/-- the best of a list -/
def bestOf (val : Nat → Int) (l : List Nat) : Nat := l.getD (bestTo val l l.length) 0
theorem bestOf_snoc (val : Nat → Int) (l : List Nat) (c : Nat) : bestOf val (l ++ [c]) = if l = [] ∨ val (bestOf val l) < val c then c else bestOf val l := by
  unfold bestOf
  have e0 : (l ++ [c]).length = l.length + 1 := by simp
  have e1 : (l ++ [c]).getD l.length 0 = c := by simp [List.getD_eq_getElem?_getD]
  rw [e0, bestTo, bestTo_append val l [c] _ (Nat.le_refl _), e1]
  by_cases hl : l = []
  · subst hl; simp [bestTo]
  · have hpos : 0 < l.length := List.length_pos_iff.2 hl
    have hb := bestTo_lt val l l.length hpos
    have e2 : (l ++ [c]).getD (bestTo val l l.length) 0 = l.getD (bestTo val l l.length) 0 := by
      rw [List.getD_eq_getElem?_getD, List.getD_eq_getElem?_getD, List.getElem?_append_left hb]
    rw [e2]
    by_cases hc : val (l.getD (bestTo val l l.length) 0) < val c
    · rw [if_pos hc, if_pos (.inr hc), e1]
    · rw [if_neg hc, if_neg (by rintro (h | h); exact hl h; exact hc h), e2]
theorem bestOf_mem (val : Nat → Int) (l : List Nat) (h : l ≠ []) : bestOf val l ∈ l := getD_mem (bestTo_lt val l l.length (List.length_pos_iff.2 h))

theorem winners_lt (t hand : Nat) (zs : List Nat) : (winnersV t hand zs).1 < 2 ^ 52 := by
  unfold winnersV
  split
  · decide
  · split
    · split
      · exact playable_lt hand zs
      · exact winFold_lt _ _ _ (playable_lt hand zs)
    · exact Nat.two_pow_pos 52
theorem winners_ok {t hand : Nat} {zs : List Nat} (h : (winnersV t hand zs).2 = 0) : t ≤ 4 ∧ (zs.length ≠ 0 → rightB zs = true) := by
  unfold winnersV at h
  by_cases h1 : 4 < t
  · rw [if_pos h1] at h; cases h
  rw [if_neg h1] at h
  refine ⟨by omega, fun h2 => ?_⟩
  by_cases h3 : (playableV hand zs).2 = 0
  · unfold playableV at h3
    by_cases h5 : 4503599627370496 ≤ hand
    · rw [if_pos h5] at h3; cases h3
    · rw [if_neg h5, if_neg h2] at h3
      cases h4 : rightB zs
      · rw [h4] at h3; cases h3
      · rfl
  · rw [if_neg h3] at h; exact absurd h h3
theorem cover_eq (t hand : Nat) (zs : List Nat) : coverV t hand zs = if (winnersV t hand zs).2 = 0 ∧ (winnersV t hand zs).1 ≠ 0 then (bestOf (weak t zs) (upTo (winnersV t hand zs).1 52), true) else (0, false) := by
  unfold coverV bestOf
  rw [vals_52 (winners_lt t hand zs)]

/-- how far finesseref11.Cover is after k rounds -/
def CovTo (val : Nat → Int) (m k : Nat) (out : Nat) (found : Bool) : Prop := out = (if upTo m k = [] then 0 else bestOf val (upTo m k)) ∧ found = !(upTo m k).isEmpty
theorem covTo_zero (val : Nat → Int) (m : Nat) : CovTo val m 0 0 false := ⟨rfl, rfl⟩
theorem CovTo.lt {val : Nat → Int} {m k out : Nat} {found : Bool} (h : CovTo val m k out found) (hk : k ≤ 52) : out < 52 := by
  obtain ⟨h1, _⟩ := h
  subst h1
  split
  · decide
  · rename_i h; have := upTo_mem (bestOf_mem val _ h); omega
theorem CovTo.no {val : Nat → Int} {m k out : Nat} {found : Bool} (h : CovTo val m k out found) (hb : m.testBit k = false) : CovTo val m (k + 1) out found := by
  unfold CovTo at *
  rw [upTo_succ, hb]
  exact h
theorem CovTo.first {val : Nat → Int} {m k out : Nat} (h : CovTo val m k out false) (hb : m.testBit k = true) : CovTo val m (k + 1) k true := by
  unfold CovTo at *
  rw [upTo_succ, hb]
  have h0 : upTo m k = [] := by
    have := h.2; cases h1 : upTo m k with
    | nil => rfl
    | cons a l => rw [h1] at this; cases this
  rw [h0]
  exact ⟨by simp [bestOf, bestTo], rfl⟩
theorem CovTo.more {val : Nat → Int} {m k out : Nat} (h : CovTo val m k out true) (hb : m.testBit k = true) : CovTo val m (k + 1) (if val out < val k then k else out) true := by
  unfold CovTo at *
  rw [upTo_succ, hb]
  have h0 : upTo m k ≠ [] := by
    intro h1; have := h.2; rw [h1] at this; cases this
  have h1 := h.1
  rw [if_neg h0] at h1
  refine ⟨?_, by simp⟩
  rw [if_pos rfl, bestOf_snoc, ← h1]
  have e : ¬ (upTo m k ++ [k] = []) := by simp
  rw [if_neg e]
  by_cases hc : val out < val k
  · rw [if_pos hc, if_pos (.inr hc)]
  · rw [if_neg hc, if_neg (by rintro (h | h); exact h0 h; exact hc h)]
theorem CovTo.done {val : Nat → Int} {m out : Nat} {found : Bool} (h : CovTo val m 52 out found) (hm : m < 2 ^ 52) (h0 : m ≠ 0) : out = bestOf val (upTo m 52) := by
  have hne : upTo m 52 ≠ [] := by
    rw [← vals_52 hm]
    intro h1
    have := vals_pos m (w64_of_52 hm) h0
    rw [h1] at this; simp at this
  have := h.1
  rwa [if_neg hne] at this

set_option maxRecDepth 100000 in
theorem ref_Cover (t hand : Nat) (a : Option Addr) (len cap : Nat) (zs : List Nat) (w : World) (hz : Byt w a len zs) (hh : W64 hand) :
    Calls Tryd.prog 33 #[.int .u8 (t : Int), .int .u64 (hand : Int), .slice a len cap] w fun e w' => e = .returned (.tuple #[.int .u8 ((coverV t hand zs).1 : Int), .bool (coverV t hand zs).2]) ∧ Below w.heap.size w w' := by
  rw [cover_eq]
  have hW := ref_Winners t hand a len cap zs w hz hh
  have hx := winners_lt t hand zs
  have hok := winners_ok (t := t) (hand := hand) (zs := zs)
  generalize winnersV t hand zs = x at *
  obtain ⟨x, y⟩ := x
  dsimp only at *
  have HW := Lib.hid hW
  clear hW
  have hx64 := w64_of_52 hx
  have HX52 := Lib.hid hx
  clear hx
  have hl := hz.length
  rw [hl] at hok
  by_cases h1 : y = 0
  · subst h1
    obtain ⟨ht4, hrt⟩ := hok rfl
    clear hok
    by_cases h2 : x = 0
    · subst h2
      rw [if_neg (by simp)]
      clear hrt hl
      go_enter Tryd.func33, Tryd.ntmps33
      go_wp2_with (go_at_call 32; refine HW.out.mono ?_; rintro e w1 ⟨rfl, hb1⟩)
      go_ret2
      exact ⟨rfl, hb1⟩
    rw [if_pos ⟨rfl, h2⟩]
    have h2' : ((x : Int) == 0) = false := by simp; omega
    have HDone : Hid (∀ out found, CovTo (weak t zs) x 52 out found → out = bestOf (weak t zs) (upTo x 52)) := Lib.hid fun out found h => h.done HX52.out h2
    generalize bestOf (weak t zs) (upTo x 52) = res at *
    by_cases h3 : len = 0
    · have h3' : decide (0 < len) = false := by simp; omega
      clear hrt
      have hwk : weak t zs = fun c : Nat => -(c : Int) := by
        funext c; unfold weak; rw [if_pos (hl.trans h3)]
      rw [hwk] at HDone
      clear hwk hl h3
      go_enter Tryd.func33, Tryd.ntmps33
      go_wp2_with (go_at_call 32; refine HW.out.mono ?_; rintro e w1 ⟨rfl, hb1⟩)
      go_loopw [10, 11, 12] (fun out found c wr => ∃ (k o : Nat) (f : Bool), k ≤ 52 ∧ c = .int .u8 (k : Int) ∧ out = .int .u8 (o : Int) ∧ found = .bool f ∧ CovTo (fun c : Nat => -(c : Int)) x k o f ∧ Below w.heap.size w wr) (fun _ _ c _ => 52 - (intOf c).toNat)
      case atStart => exact ⟨0, 0, false, by omega, rfl, rfl, rfl, covTo_zero _ _, hb1⟩
      case round =>
        obtain ⟨k, o, f, hk, rfl, rfl, rfl, hcov, hB⟩ := hrel
        by_cases hlt : k < 52
        · cases hbit : x.testBit k
          · go_wp2_with (go_at_call 52; refine (ref_Has _ _ _ hx64).mono ?_; rw [hbit]; rintro e w' ⟨rfl, rfl⟩)
            go_roundw
            case rel => exact ⟨k + 1, o, f, by omega, by go_num, rfl, rfl, hcov.no hbit, hB⟩
            case measure => simp [intOf]; omega
          · cases f
            · go_wp2_with (go_at_call 52; refine (ref_Has _ _ _ hx64).mono ?_; rw [hbit]; rintro e w' ⟨rfl, rfl⟩)
              refine wp_region_quiet_below (by kernel_rfl) (by kernel_rfl) ?_
              repeat (first | go_big_quiet_step (fail) | quiet_step (fail))
              refine wpQuiet_nil ?_
              rintro _ ⟨p, rfl⟩
              have hb3 := below_regrown wr p.d p.os
              generalize grow (redrawn wr p.d) p.os = w1 at *
              go_wp2
              go_roundw
              case rel => exact ⟨k + 1, k, true, by omega, by go_num, rfl, rfl, hcov.first hbit, hB.trans (hb3.mono hB.size)⟩
              case measure => simp [intOf]; omega
            · go_wp2_with (go_at_call 52; refine (ref_Has _ _ _ hx64).mono ?_; rw [hbit]; rintro e w' ⟨rfl, rfl⟩)
              refine wp_region_quiet_below (by kernel_rfl) (by kernel_rfl) ?_
              repeat (first | go_big_quiet_step (fail) | quiet_step (fail))
              refine wpQuiet_nil ?_
              rintro _ ⟨p, rfl⟩
              have hb3 := below_regrown wr p.d p.os
              generalize grow (redrawn wr p.d) p.os = w1 at *
              go_wp2
              go_roundw
              case rel =>
                have := hcov.more hbit
                have hok : o < k := by
                  have h1 := hcov.1
                  by_cases hne : upTo x k = []
                  · have := hcov.2; rw [hne] at this; cases this
                  · rw [if_neg hne] at h1; rw [h1]; exact upTo_mem (bestOf_mem _ _ hne)
                rw [if_neg (by omega)] at this
                exact ⟨k + 1, o, true, by omega, by go_num, rfl, rfl, this, hB.trans (hb3.mono hB.size)⟩
              case measure => simp [intOf]; omega
        · have hk' : k = 52 := by omega
          subst hk'
          go_wp2
          go_ret2
          exact ⟨by rw [HDone.out o f hcov]; rfl, hB⟩
    · have hr := hrt h3
      have hpos : 0 < len := by omega
      have hposI : (0 : Int) < (len : Int) := by omega
      have h3' : decide ((0 : Int) < (len : Int)) = true := by simp; omega
      have hc052 := right_lt hr (i := 0) (by omega)
      clear hrt hr
      obtain ⟨b, off, rfl, hb, hcs⟩ := hz.at hpos
      have hc0 := hcs 0 hpos
      clear hcs
      rw [Nat.add_zero] at hc0
      have hwk : weak t zs = fun c : Nat => -(strength t (suit (zs.getD 0 0)) c : Int) := by
        funext c; unfold weak; rw [if_neg (by rw [hl]; omega)]
      rw [hwk] at HDone
      clear hwk hl
      generalize zs.getD 0 0 = c0 at *
      go_enter Tryd.func33, Tryd.ntmps33
      go_wp2_with (go_at_call 32; refine HW.out.mono ?_; rintro e w1 ⟨rfl, hb1⟩)
      go_loopw [10, 11, 12] (fun out found c wr => ∃ (k o : Nat) (f : Bool), k ≤ 52 ∧ c = .int .u8 (k : Int) ∧ out = .int .u8 (o : Int) ∧ found = .bool f ∧ CovTo (fun c : Nat => -(strength t (suit c0) c : Int)) x k o f ∧ Below w.heap.size w wr) (fun _ _ c _ => 52 - (intOf c).toNat)
      case atStart => exact ⟨0, 0, false, by omega, rfl, rfl, rfl, covTo_zero _ _, hb1⟩
      case round =>
        obtain ⟨k, o, f, hk, rfl, rfl, rfl, hcov, hB⟩ := hrel
        have ho52 := hcov.lt hk
        by_cases hlt : k < 52
        · cases hbit : x.testBit k
          · go_wp2_with (go_at_call 52; refine (ref_Has _ _ _ hx64).mono ?_; rw [hbit]; rintro e w' ⟨rfl, rfl⟩)
            go_roundw
            case rel => exact ⟨k + 1, o, f, by omega, by go_num, rfl, rfl, hcov.no hbit, hB⟩
            case measure => simp [intOf]; omega
          · cases f
            · go_wp2_with (go_at_call 52; refine (ref_Has _ _ _ hx64).mono ?_; rw [hbit]; rintro e w' ⟨rfl, rfl⟩)
              refine wp_region_quiet_below (by kernel_rfl) (by kernel_rfl) ?_
              repeat (first | go_big_quiet_step (fail) | quiet_step (fail))
              refine wpQuiet_nil ?_
              rintro _ ⟨p, rfl⟩
              have hb3 := below_regrown wr p.d p.os
              generalize grow (redrawn wr p.d) p.os = w1 at *
              go_wp2
              go_roundw
              case rel => exact ⟨k + 1, k, true, by omega, by go_num, rfl, rfl, hcov.first hbit, hB.trans (hb3.mono hB.size)⟩
              case measure => simp [intOf]; omega
            · have hcr : wr.cell? ⟨b, off, none⟩ = some (.int .u8 (c0 : Int)) := (hB.cell (p := ⟨b, off, none⟩) hb).trans hc0
              have hr0 := fun dd os => cell_regrown hcr dd os
              have hq : IntKind.u8.wrap ((c0 : Int) / 13) = (c0 : Int) / 13 := IntWalk.u8_in _ (by omega)
              have HMore := Lib.hid (hcov.more hbit)
              clear hcov
              go_wp2_with (go_at_call 52; refine (ref_Has _ _ _ hx64).mono ?_; rw [hbit]; rintro e w' ⟨rfl, rfl⟩)
              refine wp_region_quiet_below (by kernel_rfl) (by kernel_rfl) ?_
              repeat (first | go_big_quiet_step ((exact Calls.regrown_of ((ref_strength_led _ _ _ _ (by omega) (by omega) (by omega)).mono fun _ _ ⟨he, hw⟩ => ⟨he, hw ▸ Below.refl _ _⟩))))
              refine wpQuiet_nil ?_
              rintro _ ⟨p, rfl⟩
              have hb3 := below_regrown wr p.d p.os
              generalize grow (redrawn wr p.d) p.os = w1 at *
              clear hq hr0 hcr
              generalize strength t (suit c0) k = sk at *
              generalize strength t (suit c0) o = so at *
              by_cases hcmp : sk < so
              all_goals
                go_wp2
                go_roundw
                case rel =>
                  have := HMore.out
                  first
                    | (rw [if_pos (by omega)] at this; exact ⟨k + 1, k, true, by omega, by go_num, rfl, rfl, this, hB.trans (hb3.mono hB.size)⟩)
                    | (rw [if_neg (by omega)] at this; exact ⟨k + 1, o, true, by omega, by go_num, rfl, rfl, this, hB.trans (hb3.mono hB.size)⟩)
                case measure => simp [intOf]; omega
        · have hk' : k = 52 := by omega
          subst hk'
          go_wp2
          go_ret2
          exact ⟨by rw [HDone.out o f hcov]; rfl, hB⟩
  · rw [if_neg (fun h => h1 h.1)]
    have h1' : ((y : Int) != 0) = true := by rw [bne_iff_ne]; omega
    clear hok hl
    go_enter Tryd.func33, Tryd.ntmps33
    go_wp2_with (go_at_call 32; refine HW.out.mono ?_; rintro e w1 ⟨rfl, hb1⟩)
    go_ret2
    exact ⟨rfl, hb1⟩
end Go.Proofs.YthilcnhnfdddhaaDoor
