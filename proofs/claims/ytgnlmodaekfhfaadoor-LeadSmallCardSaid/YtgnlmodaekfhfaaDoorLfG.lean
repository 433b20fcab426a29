/- The reference of chapter 14: Choose. -/
import Derived.Test.YtgnlmodaekfhfaaDoorMLfe
namespace Go.Proofs.YtgnlmodaekfhfaaDoor
open Go.RowKit Go.Shelf Go.Sort

attribute [-go_sem] run_equalIn_agg run_neq_struct
theorem choices_bit (s : St) (k : Nat) (hk : k < 6) : s.choicesV / 2 ^ k % 2 = if s.may k then 1 else 0 := by
  unfold St.choicesV
  simp only [St.sumTo]
  cases h0 : s.may 0 <;> cases h1 : s.may 1 <;> cases h2 : s.may 2 <;> cases h3 : s.may 3 <;> cases h4 : s.may 4 <;> cases h5 : s.may 5 <;>
    rcases (show k = 0 ∨ k = 1 ∨ k = 2 ∨ k = 3 ∨ k = 4 ∨ k = 5 by omega) with rfl | rfl | rfl | rfl | rfl | rfl <;> simp_all
theorem choices_lt (s : St) : s.choicesV < 64 := by
  unfold St.choicesV
  simp only [St.sumTo]
  cases s.may 0 <;> cases s.may 1 <;> cases s.may 2 <;> cases s.may 3 <;> cases s.may 4 <;> cases s.may 5 <;> decide
theorem chooseV_may (s : St) (hp : s.pend = true) (k : Nat) (hk : k < 6) : s.chooseV (2 ^ k) = if s.may k then ((s.act k).done, 0) else (s, 143) := by
  unfold St.chooseV
  rw [hp, if_pos rfl]
  simp only [St.chooseTo]
  rcases (show k = 0 ∨ k = 1 ∨ k = 2 ∨ k = 3 ∨ k = 4 ∨ k = 5 by omega) with rfl | rfl | rfl | rfl | rfl | rfl <;> simp
theorem chooseV_none (s : St) (hp : s.pend = true) (b : Nat) (h : ∀ k, k < 6 → b ≠ 2 ^ k) : s.chooseV b = (s, 143) := by
  unfold St.chooseV
  rw [hp, if_pos rfl]
  have h0 := h 0 (by omega)
  have h1 := h 1 (by omega)
  have h2 := h 2 (by omega)
  have h3 := h 3 (by omega)
  have h4 := h 4 (by omega)
  have h5 := h 5 (by omega)
  simp only [St.chooseTo]
  simp [Ne.symm h0, Ne.symm h1, Ne.symm h2, Ne.symm h3, Ne.symm h4, Ne.symm h5]
/-- a put does not touch what is pending -/
theorem put_done (s : St) (c : Nat) : (s.put c).done = s.done.put c := by
  unfold St.put St.done
  split <;> rfl
/-- the state with nothing pending, a card led by the seat -/
theorem accept_done (s : St) : s.accept.done = ({ s.done with ld := s.seat, nt := 0 } : St).put s.card := put_done _ _
set_option maxHeartbeats 1000000 in
set_option maxRecDepth 10000 in
theorem lf_Choose_free {s : St} {SA : Array Value} (hSA : SA = s.cells) (hp : s.pend = false) (b : Nat) (w : World) :
    Calls Tryd.prog 61 #[.agg SA, .int .u8 (b : Int)] w fun e w' => ∃ SB, (SB = s.cells ∧ e = .returned (.tuple #[.agg SB, .int .i64 142])) ∧ Below w.heap.size w w' := by
  have HM0 := Lib.hid (RM.start w hSA)
  have HRA : Hid (Row ((w.alloc (.cells SA 80)).alloc (.cells zst 80)) w.heap.size 80 SA) := Lib.hid ((Row.new w _ _).alloc _)
  have HZ : Hid ((Tryd.prog.info? 80).map (·.size) = some SA.size ∧ SA.size = 24 ∧ SA.all (·.oneCell') = true) := Lib.hid (by rw [hSA]; exact ⟨size_rst, rfl, one_cells _⟩)
  have HSA := Lib.hid hSA
  clear hSA
  go_enter Tryd.func61, Tryd.ntmps61
  go_upto_region 1 with fail
  change Code.wp _ _ _ _ ((w.alloc (.cells SA 80)).alloc (.cells zst 80))
  generalize (w.alloc (.cells SA 80)).alloc (.cells zst 80) = w1 at *
  have c18 : w1.cell? ⟨w.heap.size, 18, none⟩ = some (.bool s.pend) := HM0.out.row.cell 18
  rw [hp] at c18
  clear hp
  go_wp2_with (first
    | refine wpList_load_row_g rfl 80 (.tmp 2) rfl w.heap.size rfl 80 SA (0, 0) _ HRA.out Tryd.underlying80 rfl HZ.out.1 ?_
    | refine wpList_store_row rfl 80 (.tmp 4) (.tmp 11) rfl (w.heap.size + 1) SA rfl rfl 80 _ HM0.out.res HZ.out.1 (by rw [HZ.out.2.1]; rfl) HZ.out.2.2 ?_)
  refine bodyPost_ret (v := .tuple #[.agg SA, .int .i64 142]) (results_cellt Tryd.results61 _ _ (w.heap.size + 1) _ SA (0, 0) _ rfl (setRow_heap _ _ _ _ _ _ HM0.out.res) Tryd.underlying80 rfl HZ.out.1) rfl (by first | exact ⟨SA, ⟨HSA.out, rfl⟩, below_setRow HM0.out.bl (by omega) _⟩ | exact ⟨by rw [HSA.out], below_setRow HM0.out.bl (by omega) _⟩)
set_option maxHeartbeats 1000000 in
set_option maxRecDepth 10000 in
theorem lf_Choose_none {s : St} {SA : Array Value} (hSA : SA = s.cells) (hp : s.pend = true) (b : Nat) (h : ∀ k, k < 6 → b ≠ 2 ^ k) (w : World) :
    Calls Tryd.prog 61 #[.agg SA, .int .u8 (b : Int)] w fun e w' => ∃ SB, (SB = s.cells ∧ e = .returned (.tuple #[.agg SB, .int .i64 143])) ∧ Below w.heap.size w w' := by
  have HM0 := Lib.hid (RM.start w hSA)
  have HRA : Hid (Row ((w.alloc (.cells SA 80)).alloc (.cells zst 80)) w.heap.size 80 SA) := Lib.hid ((Row.new w _ _).alloc _)
  have HZ : Hid ((Tryd.prog.info? 80).map (·.size) = some SA.size ∧ SA.size = 24 ∧ SA.all (·.oneCell') = true) := Lib.hid (by rw [hSA]; exact ⟨size_rst, rfl, one_cells _⟩)
  have HSA := Lib.hid hSA
  have h0 : ((b : Int) != 1) = true := by rw [bne_iff_ne]; have := h 0 (by omega); simp only [Nat.reducePow] at this; omega
  have h1 : ((b : Int) != 2) = true := by rw [bne_iff_ne]; have := h 1 (by omega); simp only [Nat.reducePow] at this; omega
  have h2 : ((b : Int) != 4) = true := by rw [bne_iff_ne]; have := h 2 (by omega); simp only [Nat.reducePow] at this; omega
  have h3 : ((b : Int) != 8) = true := by rw [bne_iff_ne]; have := h 3 (by omega); simp only [Nat.reducePow] at this; omega
  have h4 : ((b : Int) != 16) = true := by rw [bne_iff_ne]; have := h 4 (by omega); simp only [Nat.reducePow] at this; omega
  have h5 : ((b : Int) != 32) = true := by rw [bne_iff_ne]; have := h 5 (by omega); simp only [Nat.reducePow] at this; omega
  clear hSA h
  go_enter Tryd.func61, Tryd.ntmps61
  go_upto_region 1 with fail
  change Code.wp _ _ _ _ ((w.alloc (.cells SA 80)).alloc (.cells zst 80))
  generalize (w.alloc (.cells SA 80)).alloc (.cells zst 80) = w1 at *
  have c18 : w1.cell? ⟨w.heap.size, 18, none⟩ = some (.bool s.pend) := HM0.out.row.cell 18
  rw [hp] at c18
  clear hp
  go_wp2_with (first
    | refine wpList_load_row_g rfl 80 (.tmp 2) rfl w.heap.size rfl 80 SA (0, 0) _ HRA.out Tryd.underlying80 rfl HZ.out.1 ?_
    | refine wpList_store_row rfl 80 (.tmp 4) (.tmp 42) rfl (w.heap.size + 1) SA rfl rfl 80 _ HM0.out.res HZ.out.1 (by rw [HZ.out.2.1]; rfl) HZ.out.2.2 ?_)
  refine bodyPost_ret (v := .tuple #[.agg SA, .int .i64 143]) (results_cellt Tryd.results61 _ _ (w.heap.size + 1) _ SA (0, 0) _ rfl (setRow_heap _ _ _ _ _ _ HM0.out.res) Tryd.underlying80 rfl HZ.out.1) rfl (by first | exact ⟨SA, ⟨HSA.out, rfl⟩, below_setRow HM0.out.bl (by omega) _⟩ | exact ⟨by rw [HSA.out], below_setRow HM0.out.bl (by omega) _⟩)
end Go.Proofs.YtgnlmodaekfhfaaDoor
