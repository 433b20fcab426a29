/- Contract of agree.hold over this seat's program. -/
import Derived.Test.YtikdkhiehfccpaaMAga
import Derived.Test.YtikdkhiehfccpaaTab
import Derived.Laws.CopyOwn
namespace Go.Proofs.Ytikdkhiehfccpaa
open Go.RowKit Go.Sort

/-- how many ways to take j of n -/
def way (n : Nat) : Nat → Nat
  | 0 => 1
  | j + 1 => way n j * (n - j) / (j + 1)
theorem way_le : ∀ n : Fin 10, ∀ j : Fin 11, way n.val j.val ≤ 126 := by decide
theorem way_step (n j : Nat) (hn : n ≤ 9) (hj : j ≤ n) : way n j ≤ 126 ∧ way n (j + 1) ≤ 126 := ⟨way_le ⟨n, by omega⟩ ⟨j, by omega⟩, way_le ⟨n, by omega⟩ ⟨j + 1, by omega⟩⟩
/-- the place of a length and points -/
def spot (s j : Nat) : Nat := (pop s + j) * 11 + ptS (s * 512)
/-- the holdings with some honours, j - 1 others at most -/
def holdRow (oth s : Nat) : Nat → (Nat → Nat) → Nat → Nat
  | 0, f => f
  | j + 1, f => bump (holdRow oth s j f) (spot s j) (way oth j)
/-- the holdings with the first s sets of honours -/
def holdTo (hon oth : Nat) : Nat → Nat → Nat
  | 0 => fun _ => 0
  | s + 1 => if landn s hon = 0 then holdRow oth s (oth + 1) (holdTo hon oth s) else holdTo hon oth s
/-- agree.hold -/
def holdV (x : Nat) : Nat → Nat := holdTo (shr x 9) (pop (land x 511)) 16
theorem bump_le {f : Nat → Nat} {i v m n : Nat} (h : ∀ x, f x ≤ m) (hv : v ≤ n) (x : Nat) : bump f i v x ≤ m + n := by
  have := h x
  unfold bump
  split <;> omega
theorem holdRow_le {oth s m : Nat} {f : Nat → Nat} (ho : oth ≤ 9) (h : ∀ x, f x ≤ m) : ∀ j, j ≤ oth + 1 → ∀ x, holdRow oth s j f x ≤ m + 126 * j
  | 0, _, x => by simpa [holdRow] using h x
  | j + 1, hj, x => by
    have := bump_le (i := spot s j) (holdRow_le (s := s) ho h j (by omega)) (way_step oth j ho (by omega)).1 x
    simp only [holdRow]; omega
theorem holdTo_le {hon oth : Nat} (ho : oth ≤ 9) : ∀ s x, holdTo hon oth s x ≤ 1260 * s
  | 0, x => by simp [holdTo]
  | s + 1, x => by
    have h1 := holdRow_le (s := s) ho (holdTo_le (hon := hon) ho s) (oth + 1) (Nat.le_refl _) x
    have h2 := holdTo_le (hon := hon) ho s x
    simp only [holdTo]
    split <;> omega
theorem pop_sm : ∀ s : Fin 16, pop s.val ≤ 4 := by decide +kernel
theorem pop_low : ∀ s : Fin 512, pop s.val ≤ 9 := by decide +kernel
theorem land_low (x : Nat) : land x 511 < 512 := Nat.lt_of_le_of_lt Nat.and_le_right (by decide)
theorem spot_lt {s j : Nat} (hs : s < 16) (hj : j ≤ 9) : pop s + j < 14 ∧ ptS (s * 512) < 11 ∧ spot s j < 154 := by
  have h1 := pop_sm ⟨s, hs⟩
  have h2 := ptS_le (s * 512)
  simp only at h1
  unfold spot
  omega

theorem zero102 : ∀ w : World, (zeroValue 142).run Try.prog w = .ok (.agg (tab 154 fun _ => 0)) w := by
  have h : (Try.prog.info? 142).map (fun i => (i.zero, i.size)) = some (some (.agg (tab 154 fun _ => 0)), 154) := by kernel_rfl
  cases hq : Try.prog.info? 142 with
  | none => simp [hq] at h
  | some i =>
    simp [hq] at h
    intro w
    simp [zeroValue, typeInfo, hq, h.1]
theorem size102 : (Try.prog.info? 142).map (·.size) = some 154 := by kernel_rfl
theorem under102 : Try.prog.underlying 142 = some (.array 14 120) := by kernel_rfl
theorem landn_bool (s h : Nat) (hs : W64 s) (hh : W64 h) : (bits .andNot .u64 (s : Int) (h : Int) != 0) = !decide (landn s h = 0) := by
  have e := run_andn64 s h hs hh
  rw [intBits_andNot] at e
  injection e with e
  injection e with e
  rw [e, Bool.eq_iff_iff]
  simp [bne_iff_ne]
  omega
theorem ones_b (x : Nat) (hx : W64 x) (w : World) : Calls Try.prog 47 #[.int .u64 (x : Int)] w fun e w' => e = .returned (.int .i64 ((pop x : Nat) : Int)) ∧ Below w.heap.size w w' :=
  (bits_ones x hx w).mono fun _ _ h => ⟨h.1, h.2 ▸ Below.refl _ _⟩
theorem points_b (x : Nat) (hx : W64 x) (w : World) : Calls Try.prog 62 #[.int .u64 (x : Int)] w fun e w' => e = .returned (.int .i64 ((ptS x : Nat) : Int)) ∧ Below w.heap.size w w' :=
  (ag_points x hx w).mono fun _ _ h => ⟨h.1, h.2 ▸ Below.refl _ _⟩
/-- the world in the loops of hold -/
structure HW (w wr : World) (f : Nat → Nat) : Prop where
  below : Below w.heap.size w wr
  res : Row wr w.heap.size 142 (tab 154 fun _ => 0)
  row : Row wr (w.heap.size + 1) 142 (tab 154 f)

theorem HW.step {w wr wa : World} {f : Nat → Nat} (h : HW w wr f) (hb : Below wr.heap.size wr wa) (i v : Nat) : HW w (wa.setCell ⟨w.heap.size + 1, i, none⟩ (.int .i64 ((f i + v : Nat) : Int))) (bump f i v) := by
  refine ⟨(h.below.trans (hb.mono h.below.size)).setCell (by show w.heap.size ≤ w.heap.size + 1; omega) _, (h.res.later hb).other (by omega), ?_⟩
  have := (h.row.later hb).set i (.int .i64 ((f i + v : Nat) : Int))
  rwa [tab_set] at this
theorem way_mul {oth j : Nat} (h : way oth j ≤ 126) (ho : oth ≤ 9) (_hj : j ≤ oth) : way oth j * (oth - j) ≤ 1134 :=
  Nat.le_trans (Nat.mul_le_mul h (by omega : oth - j ≤ 9)) (by decide)
theorem way_quo (oth j : Nat) (_hj : j ≤ oth) : way oth (j + 1) = way oth j * (oth - j) / (j + 1) := rfl

set_option maxRecDepth 5000 in
theorem ag_hold (x : Nat) (hx : x < 8192) (w : World) : Calls Try.prog 72 #[.int .u64 (x : Int)] w fun e w' => e = .returned (.agg (tab 154 (holdV x))) ∧ Below w.heap.size w w' := by
  have hW : W64 x := by unfold W64; omega
  obtain ⟨hon, HH⟩ : ∃ hon, Hid (shr x 9 = hon) := ⟨_, Lib.hid rfl⟩
  obtain ⟨oth, HO⟩ : ∃ oth, Hid (pop (land x 511) = oth) := ⟨_, Lib.hid rfl⟩
  have HV : Hid (holdV x = holdTo hon oth 16) := Lib.hid (by unfold holdV; rw [HH.out, HO.out])
  have hoth : oth ≤ 9 := by rw [← HO.out]; exact pop_low ⟨_, land_low x⟩
  have hhon : W64 hon := by rw [← HH.out]; exact hW.shr
  have e1 : (x : Int) / 512 = (hon : Int) := by rw [← HH.out]; unfold shr; rw [Nat.shiftRight_eq_div_pow]; simp
  have e2 : bits .and .u64 (x : Int) 511 = ((land x 511 : Nat) : Int) := by rw [show (511 : Int) = ((511 : Nat) : Int) from rfl, bits_and_nat _ _ hW (by unfold W64; decide)]; rfl
  have hz := zero102
  go_enter Try.func72, Try.ntmps72
  have hb0 := fun w' => bits_ones (land x 511) hW.land w'
  simp only [HO.out] at hb0
  go_wp2_with (go_at_call 47; refine (hb0 _).mono ?_; rintro e w' ⟨rfl, rfl⟩)
  clear hb0 e1 e2 hz
  have hI : HW w ((w.alloc (.cells (tab 154 fun _ => 0) 142)).alloc (.cells (tab 154 fun _ => 0) 142)) (holdTo hon oth 0) := by
    refine ⟨((Below.refl _ _).alloc (Nat.le_refl _) _).alloc (by simp) _, (Row.new _ _ _).alloc _, ?_⟩
    have := Row.new (w.alloc (.cells (tab 154 fun _ => 0) 142)) 142 (tab 154 fun _ => 0)
    rwa [World.size_alloc] at this
  generalize ((w.alloc (.cells (tab 154 fun _ => 0) 142)).alloc (.cells (tab 154 fun _ => 0) 142)) = W0 at *
  go_loopw [6, 7, 8] (fun v _ _ wr => ∃ (s : Nat), s ≤ 16 ∧ v = .int .u64 (s : Int) ∧ HW w wr (holdTo hon oth s)) (fun v _ _ _ => 16 - (intOf v).toNat)
  case atStart => exact ⟨0, by omega, rfl, hI⟩
  case round =>
    obtain ⟨s, hs, rfl, hH⟩ := hrel
    by_cases hlt : s < 16
    · have hsW : W64 s := by unfold W64; omega
      have d16 : decide ((s : Int) < 16) = true := by simp; omega
      have HL := Lib.hid (landn_bool s hon hsW hhon)
      by_cases hsub : landn s hon = 0
      · have en : (bits .andNot .u64 (s : Int) (hon : Int) != 0) = false := by rw [HL.out, hsub]; rfl
        have HN : Hid (holdTo hon oth (s + 1) = holdRow oth s (oth + 1) (holdTo hon oth s)) := Lib.hid (by simp only [holdTo]; rw [if_pos hsub])
        have HB := Lib.hid (holdTo_le (hon := hon) hoth s)
        generalize holdTo hon oth s = f at *
        go_wp2_with fail
        go_loopw [7, 8] (fun v u wr => ∃ (j : Nat), j ≤ oth + 1 ∧ u = .int .i64 (j : Int) ∧ v = .int .i64 ((way oth j : Nat) : Int) ∧ HW w wr (holdRow oth s j f)) (fun _ u _ => oth + 1 - (intOf u).toNat)
        case atStart => exact ⟨0, by omega, rfl, rfl, hH⟩
        case round =>
          obtain ⟨j, hj, rfl, rfl, hH⟩ := hrel
          by_cases hjl : j ≤ oth
          · obtain ⟨w1, w2⟩ := way_step oth j hoth hjl
            obtain ⟨sp1, sp2, sp3⟩ := spot_lt hlt (by omega : j ≤ 9)
            go_wp2_with fail
            have hbd := fun j hj => holdRow_le (s := s) hoth HB.out j hj
            obtain ⟨q, Hq⟩ : ∃ q, Hid (pop s + j = q) := ⟨_, Lib.hid rfl⟩
            have hqe : (pop s : Int) + (j : Int) = (q : Int) := by rw [← Hq.out]; simp
            have hqn : q < 14 := by rw [← Hq.out]; exact sp1
            have hqw : IntKind.i64.wrap (q : Int) = (q : Int) := IntWalk.i64_in _ (by omega)
            obtain ⟨z, Hz⟩ : ∃ z, Hid (s * 512 = z) := ⟨_, Lib.hid rfl⟩
            have hz16 : z < 8192 := by rw [← Hz.out]; omega
            have hsh : IntKind.u64.wrap ((s : Int) * 512) = (z : Int) := by rw [IntKind.wrap_u64, ← Hz.out]; omega
            have hqi : (q : Int) < 14 := by omega
            have hri : ((ptS z : Nat) : Int) < 11 := by rw [← Hz.out]; omega
            have Hs : Hid (spot s j = q * 11 + ptS z) := Lib.hid (by rw [← Hq.out, ← Hz.out]; rfl)
            have hc : wr.cell? ⟨w.heap.size + 1, q * 11 + ptS z, none⟩ = some (.int .i64 ((holdRow oth s j f (q * 11 + ptS z) : Nat) : Int)) := by rw [← Hs.out, hH.row.cell, tab_get _ _ _ sp3]
            have rc := fun dd os => cell_regrown hc dd os
            refine wp_region_below_tail 14 (by kernel_rfl) (by kernel_rfl) ?_
            simp only [List.take_succ_cons, List.take_zero, List.drop_succ_cons, List.drop_zero]
            repeat (quiet_step (first | with_reducible exact Calls.regrown_of (ones_b s hsW _) | with_reducible exact Calls.regrown_of (points_b z (by unfold W64; omega) _)))
            refine wpQuiet_nil ?_
            rintro _ ⟨p, rfl⟩
            have hb := below_regrown wr p.d p.os
            generalize grow (redrawn wr p.d) p.os = wa at *
            have hfz := (hH.row.later hb).frozen (q * 11 + ptS z)
            have hca := (hb.cell (p := ⟨w.heap.size + 1, q * 11 + ptS z, none⟩) hH.row.lt).trans hc
            have hH1 := hH.step hb (spot s j) (way oth j)
            rw [Hs.out] at hH1
            have HH1 := Lib.hid hH1
            clear hH1 rc hc hb hqe hqw hsh
            have hm := way_mul w1 hoth hjl
            have HW1 := Lib.hid (way_quo oth j hjl)
            obtain ⟨m, Hm⟩ : ∃ m, Hid (way oth j * (oth - j) = m) := ⟨_, Lib.hid rfl⟩
            rw [Hm.out] at hm
            have hme : (way oth j : Int) * ((oth : Int) - (j : Int)) = (m : Int) := by rw [← Hm.out, ← Int.natCast_sub hjl]; simp
            have hvb := hbd j (by omega) (spot s j)
            rw [Hs.out] at hvb
            have HD : Hid (wrap64 ((m : Int) / ((j : Int) + 1)) = ((way oth (j + 1) : Nat) : Int)) := Lib.hid (by
              rw [HW1.out, Hm.out]
              have : m / (j + 1) ≤ m := Nat.div_le_self _ _
              rw [show (m : Int) / ((j : Int) + 1) = ((m / (j + 1) : Nat) : Int) by simp]
              generalize m / (j + 1) = d at *
              exact IntWalk.wrap64_in _ (by omega))
            have HRR : Hid (holdRow oth s (j + 1) f = bump (holdRow oth s j f) (q * 11 + ptS z) (way oth j)) := Lib.hid (by rw [← Hs.out]; rfl)
            go_wp2_with fail
            go_roundw
            · exact ⟨j + 1, by omega, by simp, by rw [HD.out], by rw [HRR.out]; have := HH1.out; simpa using this⟩
            · simp [intOf]; omega
          · obtain rfl : j = oth + 1 := by omega
            go_wp2_with fail
            have HH1 := Lib.hid hH
            clear hH
            go_roundw
            · exact ⟨s + 1, by omega, by simp, by rw [HN.out]; exact HH1.out⟩
            · simp [intOf]; omega
      · have en : (bits .andNot .u64 (s : Int) (hon : Int) != 0) = true := by rw [HL.out]; simp [hsub]
        have HN : Hid (holdTo hon oth (s + 1) = holdTo hon oth s) := Lib.hid (by simp only [holdTo]; rw [if_neg hsub])
        generalize holdTo hon oth s = f at *
        go_wp2_with fail
        have HH1 := Lib.hid hH
        clear hH
        go_roundw
        · exact ⟨s + 1, by omega, by simp, by rw [HN.out]; exact HH1.out⟩
        · simp [intOf]; omega
    · obtain rfl : s = 16 := by omega
      have hr := hH.row
      have hr0 := hH.res
      have HB := Lib.hid hH.below
      have hf : holdTo hon oth 16 = holdV x := HV.out.symm
      rw [hf] at hr
      have Hf := Lib.hid hf
      clear hH hf
      go_wp2_with (first
        | refine wpList_load_row rfl 142 (.tmp 3) rfl (w.heap.size + 1) rfl 142 (tab 154 (holdV x)) (0, 0) _ hr under102 rfl (by rw [size102, tab_size]) ?_
        | refine wpList_store_row rfl 142 (.tmp 2) (.tmp 49) rfl w.heap.size (tab 154 (holdV x)) rfl rfl 142 _ hr0 (by rw [size102, tab_size]) (by rw [tab_size, tab_size]) (tab_one _ _) ?_)
      refine bodyPost_ret (v := .agg (tab 154 (holdV x))) (results_cell_row rfl _ _ w.heap.size _ (tab 154 (holdV x)) (0, 0) _ rfl (setRow_heap _ _ _ _ _ _ hr0) under102 rfl (by rw [size102, tab_size])) rfl ⟨rfl, below_setRow HB.out (Nat.le_refl _) _⟩
end Go.Proofs.Ytikdkhiehfccpaa
