/- ApA, ApP, ApB, ApC in one text. -/
import Derived.Test.YtdlnilebnobllaaMKit
import Derived.Test.YtdlnilebnobllaaQTail
import Derived.Sort.LoopGhostIn
import Derived.Deep.LoopGhost
import Derived.Deep.RegionHeld
import Derived.BigQuiet
import Derived.Deep.QuietTactic
import Derived.Deep.AppendLies

/- Contracts of finessekit's flat functions on nothing over this seat's program (printed by wip/genap.py). -/
namespace Go.Proofs.Ytdlnilebnobllaa
open Go.RowKit Go.Shelf Go.Sort

theorem info_Ints : (Try.prog.info? 136).map (fun i => (i.zero, i.size, i.bytes)) = some (some (.slice none 0 0), 1, 24) := by kernel_rfl
set_option maxRecDepth 100000 in
theorem flat_Ints (w : World) : Calls Try.prog 56 #[.slice none 0 0] w fun e w' => e = .returned (.bool true) ∧ Below w.heap.size w w' := by
  obtain ⟨i0, hi, hz0, hz1, hz2⟩ := info_parts info_Ints
  go_enter Try.func56, Try.ntmps56
  go_wp2
  refine wp_loop_rounds 1 ?_
  rw [rounds_succ]
  go_wp2_with (at_make; refine wpList_make_own _ rfl _ _ 91 rfl w.heap.size 136 i0 (.slice none 0 0) 1 Try.underlying91 hi hz0 hz1 _ _ _ 0 rfl rfl (by omega) (by rw [hz2]; omega) (by unfold maxLen; omega) (Nat.le_refl _) ?_; intro w1 hown1 hg1; have hB1 : Below w.heap.size w w1 := (Below.refl _ _).grown hg1 (Nat.le_refl _) (fun _ h => by cases h))
  refine wp_loop_rounds 1 ?_
  rw [rounds_succ]
  go_wp2
  refine wp_loop_rounds 1 ?_
  rw [rounds_succ]
  go_wp2
  refine wp_loop_rounds 1 ?_
  rw [rounds_succ]
  go_wp2
  refine wp_loop_rounds 1 ?_
  rw [rounds_succ]
  go_wp2
  go_ret
  exact ⟨rfl, hB1⟩
theorem info_Texts : (Try.prog.info? 137).map (fun i => (i.zero, i.size, i.bytes)) = some (some (.slice none 0 0), 1, 24) := by kernel_rfl
set_option maxRecDepth 100000 in
theorem flat_Texts (w : World) : Calls Try.prog 57 #[.slice none 0 0] w fun e w' => e = .returned (.bool true) ∧ Below w.heap.size w w' := by
  obtain ⟨i0, hi, hz0, hz1, hz2⟩ := info_parts info_Texts
  go_enter Try.func57, Try.ntmps57
  go_wp2
  refine wp_loop_rounds 1 ?_
  rw [rounds_succ]
  go_wp2_with (at_make; refine wpList_make_own _ rfl _ _ 92 rfl w.heap.size 137 i0 (.slice none 0 0) 1 Try.underlying92 hi hz0 hz1 _ _ _ 0 rfl rfl (by omega) (by rw [hz2]; omega) (by unfold maxLen; omega) (Nat.le_refl _) ?_; intro w1 hown1 hg1; have hB1 : Below w.heap.size w w1 := (Below.refl _ _).grown hg1 (Nat.le_refl _) (fun _ h => by cases h))
  refine wp_loop_rounds 1 ?_
  rw [rounds_succ]
  go_wp2
  refine wp_loop_rounds 1 ?_
  rw [rounds_succ]
  go_wp2
  refine wp_loop_rounds 1 ?_
  rw [rounds_succ]
  go_wp2
  refine wp_loop_rounds 1 ?_
  rw [rounds_succ]
  go_wp2
  go_ret
  exact ⟨rfl, hB1⟩
theorem info_Masks : (Try.prog.info? 139).map (fun i => (i.zero, i.size, i.bytes)) = some (some (.slice none 0 0), 1, 24) := by kernel_rfl
set_option maxRecDepth 100000 in
theorem flat_Masks (w : World) : Calls Try.prog 59 #[.slice none 0 0] w fun e w' => e = .returned (.bool true) ∧ Below w.heap.size w w' := by
  obtain ⟨i0, hi, hz0, hz1, hz2⟩ := info_parts info_Masks
  go_enter Try.func59, Try.ntmps59
  go_wp2
  refine wp_loop_rounds 1 ?_
  rw [rounds_succ]
  go_wp2_with (at_make; refine wpList_make_own _ rfl _ _ 93 rfl w.heap.size 139 i0 (.slice none 0 0) 1 Try.underlying93 hi hz0 hz1 _ _ _ 0 rfl rfl (by omega) (by rw [hz2]; omega) (by unfold maxLen; omega) (Nat.le_refl _) ?_; intro w1 hown1 hg1; have hB1 : Below w.heap.size w w1 := (Below.refl _ _).grown hg1 (Nat.le_refl _) (fun _ h => by cases h))
  refine wp_loop_rounds 1 ?_
  rw [rounds_succ]
  go_wp2
  refine wp_loop_rounds 1 ?_
  rw [rounds_succ]
  go_wp2
  refine wp_loop_rounds 1 ?_
  rw [rounds_succ]
  go_wp2
  refine wp_loop_rounds 1 ?_
  rw [rounds_succ]
  go_wp2
  go_ret
  exact ⟨rfl, hB1⟩
theorem info_Deals : (Try.prog.info? 32).map (fun i => (i.zero, i.size, i.bytes)) = some (some (.slice none 0 0), 1, 24) := by kernel_rfl
set_option maxRecDepth 100000 in
theorem flat_Deals (w : World) : Calls Try.prog 60 #[.slice none 0 0] w fun e w' => e = .returned (.bool true) ∧ Below w.heap.size w w' := by
  obtain ⟨i0, hi, hz0, hz1, hz2⟩ := info_parts info_Deals
  go_enter Try.func60, Try.ntmps60
  go_wp2
  refine wp_loop_rounds 1 ?_
  rw [rounds_succ]
  go_wp2_with (at_make; refine wpList_make_own _ rfl _ _ 94 rfl w.heap.size 32 i0 (.slice none 0 0) 1 Try.underlying94 hi hz0 hz1 _ _ _ 0 rfl rfl (by omega) (by rw [hz2]; omega) (by unfold maxLen; omega) (Nat.le_refl _) ?_; intro w1 hown1 hg1; have hB1 : Below w.heap.size w w1 := (Below.refl _ _).grown hg1 (Nat.le_refl _) (fun _ h => by cases h))
  refine wp_loop_rounds 1 ?_
  rw [rounds_succ]
  go_wp2
  refine wp_loop_rounds 1 ?_
  rw [rounds_succ]
  go_wp2
  refine wp_loop_rounds 1 ?_
  rw [rounds_succ]
  go_wp2
  refine wp_loop_rounds 1 ?_
  rw [rounds_succ]
  go_wp2
  go_ret
  exact ⟨rfl, hB1⟩
theorem info_Fracs : (Try.prog.info? 142).map (fun i => (i.zero, i.size, i.bytes)) = some (some (.slice none 0 0), 1, 24) := by kernel_rfl
set_option maxRecDepth 100000 in
theorem flat_Fracs (w : World) : Calls Try.prog 61 #[.slice none 0 0] w fun e w' => e = .returned (.bool true) ∧ Below w.heap.size w w' := by
  obtain ⟨i0, hi, hz0, hz1, hz2⟩ := info_parts info_Fracs
  go_enter Try.func61, Try.ntmps61
  go_wp2
  refine wp_loop_rounds 1 ?_
  rw [rounds_succ]
  go_wp2_with (at_make; refine wpList_make_own _ rfl _ _ 95 rfl w.heap.size 142 i0 (.slice none 0 0) 1 Try.underlying95 hi hz0 hz1 _ _ _ 0 rfl rfl (by omega) (by rw [hz2]; omega) (by unfold maxLen; omega) (Nat.le_refl _) ?_; intro w1 hown1 hg1; have hB1 : Below w.heap.size w w1 := (Below.refl _ _).grown hg1 (Nat.le_refl _) (fun _ h => by cases h))
  refine wp_loop_rounds 1 ?_
  rw [rounds_succ]
  go_wp2
  refine wp_loop_rounds 1 ?_
  rw [rounds_succ]
  go_wp2
  refine wp_loop_rounds 1 ?_
  rw [rounds_succ]
  go_wp2
  refine wp_loop_rounds 1 ?_
  rw [rounds_succ]
  go_wp2
  go_ret
  exact ⟨rfl, hB1⟩
theorem info_Contracts : (Try.prog.info? 146).map (fun i => (i.zero, i.size, i.bytes)) = some (some (.slice none 0 0), 1, 24) := by kernel_rfl
set_option maxRecDepth 100000 in
theorem flat_Contracts (w : World) : Calls Try.prog 62 #[.slice none 0 0] w fun e w' => e = .returned (.bool true) ∧ Below w.heap.size w w' := by
  obtain ⟨i0, hi, hz0, hz1, hz2⟩ := info_parts info_Contracts
  go_enter Try.func62, Try.ntmps62
  go_wp2
  refine wp_loop_rounds 1 ?_
  rw [rounds_succ]
  go_wp2_with (at_make; refine wpList_make_own _ rfl _ _ 96 rfl w.heap.size 146 i0 (.slice none 0 0) 1 Try.underlying96 hi hz0 hz1 _ _ _ 0 rfl rfl (by omega) (by rw [hz2]; omega) (by unfold maxLen; omega) (Nat.le_refl _) ?_; intro w1 hown1 hg1; have hB1 : Below w.heap.size w w1 := (Below.refl _ _).grown hg1 (Nat.le_refl _) (fun _ h => by cases h))
  refine wp_loop_rounds 1 ?_
  rw [rounds_succ]
  go_wp2
  refine wp_loop_rounds 1 ?_
  rw [rounds_succ]
  go_wp2
  refine wp_loop_rounds 1 ?_
  rw [rounds_succ]
  go_wp2
  refine wp_loop_rounds 1 ?_
  rw [rounds_succ]
  go_wp2
  go_ret
  exact ⟨rfl, hB1⟩
theorem info_Outcomes : (Try.prog.info? 150).map (fun i => (i.zero, i.size, i.bytes)) = some (some (.slice none 0 0), 1, 24) := by kernel_rfl
set_option maxRecDepth 100000 in
theorem flat_Outcomes (w : World) : Calls Try.prog 63 #[.slice none 0 0] w fun e w' => e = .returned (.bool true) ∧ Below w.heap.size w w' := by
  obtain ⟨i0, hi, hz0, hz1, hz2⟩ := info_parts info_Outcomes
  go_enter Try.func63, Try.ntmps63
  go_wp2
  refine wp_loop_rounds 1 ?_
  rw [rounds_succ]
  go_wp2_with (at_make; refine wpList_make_own _ rfl _ _ 97 rfl w.heap.size 150 i0 (.slice none 0 0) 1 Try.underlying97 hi hz0 hz1 _ _ _ 0 rfl rfl (by omega) (by rw [hz2]; omega) (by unfold maxLen; omega) (Nat.le_refl _) ?_; intro w1 hown1 hg1; have hB1 : Below w.heap.size w w1 := (Below.refl _ _).grown hg1 (Nat.le_refl _) (fun _ h => by cases h))
  refine wp_loop_rounds 1 ?_
  rw [rounds_succ]
  go_wp2
  refine wp_loop_rounds 1 ?_
  rw [rounds_succ]
  go_wp2
  refine wp_loop_rounds 1 ?_
  rw [rounds_succ]
  go_wp2
  refine wp_loop_rounds 1 ?_
  rw [rounds_succ]
  go_wp2
  go_ret
  exact ⟨rfl, hB1⟩
theorem info_Entries : (Try.prog.info? 154).map (fun i => (i.zero, i.size, i.bytes)) = some (some (.slice none 0 0), 1, 24) := by kernel_rfl
set_option maxRecDepth 100000 in
theorem flat_Entries (w : World) : Calls Try.prog 64 #[.slice none 0 0] w fun e w' => e = .returned (.bool true) ∧ Below w.heap.size w w' := by
  obtain ⟨i0, hi, hz0, hz1, hz2⟩ := info_parts info_Entries
  go_enter Try.func64, Try.ntmps64
  go_wp2
  refine wp_loop_rounds 1 ?_
  rw [rounds_succ]
  go_wp2_with (at_make; refine wpList_make_own _ rfl _ _ 98 rfl w.heap.size 154 i0 (.slice none 0 0) 1 Try.underlying98 hi hz0 hz1 _ _ _ 0 rfl rfl (by omega) (by rw [hz2]; omega) (by unfold maxLen; omega) (Nat.le_refl _) ?_; intro w1 hown1 hg1; have hB1 : Below w.heap.size w w1 := (Below.refl _ _).grown hg1 (Nat.le_refl _) (fun _ h => by cases h))
  refine wp_loop_rounds 1 ?_
  rw [rounds_succ]
  go_wp2
  refine wp_loop_rounds 1 ?_
  rw [rounds_succ]
  go_wp2
  refine wp_loop_rounds 1 ?_
  rw [rounds_succ]
  go_wp2
  refine wp_loop_rounds 1 ?_
  rw [rounds_succ]
  go_wp2
  go_ret
  exact ⟨rfl, hB1⟩
theorem info_Rows : (Try.prog.info? 159).map (fun i => (i.zero, i.size, i.bytes)) = some (some (.slice none 0 0), 1, 24) := by kernel_rfl
set_option maxRecDepth 100000 in
theorem flat_Rows (w : World) : Calls Try.prog 65 #[.slice none 0 0] w fun e w' => e = .returned (.bool true) ∧ Below w.heap.size w w' := by
  obtain ⟨i0, hi, hz0, hz1, hz2⟩ := info_parts info_Rows
  go_enter Try.func65, Try.ntmps65
  go_wp2
  refine wp_loop_rounds 1 ?_
  rw [rounds_succ]
  go_wp2_with (at_make; refine wpList_make_own _ rfl _ _ 99 rfl w.heap.size 159 i0 (.slice none 0 0) 1 Try.underlying99 hi hz0 hz1 _ _ _ 0 rfl rfl (by omega) (by rw [hz2]; omega) (by unfold maxLen; omega) (Nat.le_refl _) ?_; intro w1 hown1 hg1; have hB1 : Below w.heap.size w w1 := (Below.refl _ _).grown hg1 (Nat.le_refl _) (fun _ h => by cases h))
  refine wp_loop_rounds 1 ?_
  rw [rounds_succ]
  go_wp2
  refine wp_loop_rounds 1 ?_
  rw [rounds_succ]
  go_wp2
  refine wp_loop_rounds 1 ?_
  rw [rounds_succ]
  go_wp2
  refine wp_loop_rounds 1 ?_
  rw [rounds_succ]
  go_wp2
  go_ret
  exact ⟨rfl, hB1⟩
theorem info_Movements : (Try.prog.info? 163).map (fun i => (i.zero, i.size, i.bytes)) = some (some (.slice none 0 0), 1, 24) := by kernel_rfl
set_option maxRecDepth 100000 in
theorem flat_Movements (w : World) : Calls Try.prog 66 #[.slice none 0 0] w fun e w' => e = .returned (.bool true) ∧ Below w.heap.size w w' := by
  obtain ⟨i0, hi, hz0, hz1, hz2⟩ := info_parts info_Movements
  go_enter Try.func66, Try.ntmps66
  go_wp2
  refine wp_loop_rounds 1 ?_
  rw [rounds_succ]
  go_wp2_with (at_make; refine wpList_make_own _ rfl _ _ 100 rfl w.heap.size 163 i0 (.slice none 0 0) 1 Try.underlying100 hi hz0 hz1 _ _ _ 0 rfl rfl (by omega) (by rw [hz2]; omega) (by unfold maxLen; omega) (Nat.le_refl _) ?_; intro w1 hown1 hg1; have hB1 : Below w.heap.size w w1 := (Below.refl _ _).grown hg1 (Nat.le_refl _) (fun _ h => by cases h))
  refine wp_loop_rounds 1 ?_
  rw [rounds_succ]
  go_wp2
  refine wp_loop_rounds 1 ?_
  rw [rounds_succ]
  go_wp2
  refine wp_loop_rounds 1 ?_
  rw [rounds_succ]
  go_wp2
  refine wp_loop_rounds 1 ?_
  rw [rounds_succ]
  go_wp2
  go_ret
  exact ⟨rfl, hB1⟩
theorem info_Sessions : (Try.prog.info? 168).map (fun i => (i.zero, i.size, i.bytes)) = some (some (.slice none 0 0), 1, 24) := by kernel_rfl
set_option maxRecDepth 100000 in
theorem flat_Sessions (w : World) : Calls Try.prog 67 #[.slice none 0 0] w fun e w' => e = .returned (.bool true) ∧ Below w.heap.size w w' := by
  obtain ⟨i0, hi, hz0, hz1, hz2⟩ := info_parts info_Sessions
  go_enter Try.func67, Try.ntmps67
  go_wp2
  refine wp_loop_rounds 1 ?_
  rw [rounds_succ]
  go_wp2_with (at_make; refine wpList_make_own _ rfl _ _ 101 rfl w.heap.size 168 i0 (.slice none 0 0) 1 Try.underlying101 hi hz0 hz1 _ _ _ 0 rfl rfl (by omega) (by rw [hz2]; omega) (by unfold maxLen; omega) (Nat.le_refl _) ?_; intro w1 hown1 hg1; have hB1 : Below w.heap.size w w1 := (Below.refl _ _).grown hg1 (Nat.le_refl _) (fun _ h => by cases h))
  refine wp_loop_rounds 1 ?_
  rw [rounds_succ]
  go_wp2
  refine wp_loop_rounds 1 ?_
  rw [rounds_succ]
  go_wp2
  refine wp_loop_rounds 1 ?_
  rw [rounds_succ]
  go_wp2
  refine wp_loop_rounds 1 ?_
  rw [rounds_succ]
  go_wp2
  go_ret
  exact ⟨rfl, hB1⟩
theorem info_IntLists : (Try.prog.info? 91).map (fun i => (i.zero, i.size, i.bytes)) = some (some (.slice none 0 0), 1, 24) := by kernel_rfl
set_option maxRecDepth 100000 in
theorem flat_IntLists (w : World) : Calls Try.prog 68 #[.slice none 0 0] w fun e w' => e = .returned (.bool true) ∧ Below w.heap.size w w' := by
  obtain ⟨i0, hi, hz0, hz1, hz2⟩ := info_parts info_IntLists
  go_enter Try.func68, Try.ntmps68
  go_wp2
  refine wp_loop_rounds 1 ?_
  rw [rounds_succ]
  go_wp2_with (at_make; refine wpList_make_own _ rfl _ _ 102 rfl w.heap.size 91 i0 (.slice none 0 0) 1 Try.underlying102 hi hz0 hz1 _ _ _ 0 rfl rfl (by omega) (by rw [hz2]; omega) (by unfold maxLen; omega) (Nat.le_refl _) ?_; intro w1 hown1 hg1; have hB1 : Below w.heap.size w w1 := (Below.refl _ _).grown hg1 (Nat.le_refl _) (fun _ h => by cases h))
  refine wp_loop_rounds 1 ?_
  rw [rounds_succ]
  go_wp2
  refine wp_loop_rounds 1 ?_
  rw [rounds_succ]
  go_wp2
  refine wp_loop_rounds 1 ?_
  rw [rounds_succ]
  go_wp2
  refine wp_loop_rounds 1 ?_
  rw [rounds_succ]
  go_wp2
  go_ret
  exact ⟨rfl, hB1⟩
theorem info_TextLists : (Try.prog.info? 92).map (fun i => (i.zero, i.size, i.bytes)) = some (some (.slice none 0 0), 1, 24) := by kernel_rfl
set_option maxRecDepth 100000 in
theorem flat_TextLists (w : World) : Calls Try.prog 69 #[.slice none 0 0] w fun e w' => e = .returned (.bool true) ∧ Below w.heap.size w w' := by
  obtain ⟨i0, hi, hz0, hz1, hz2⟩ := info_parts info_TextLists
  go_enter Try.func69, Try.ntmps69
  go_wp2
  refine wp_loop_rounds 1 ?_
  rw [rounds_succ]
  go_wp2_with (at_make; refine wpList_make_own _ rfl _ _ 103 rfl w.heap.size 92 i0 (.slice none 0 0) 1 Try.underlying103 hi hz0 hz1 _ _ _ 0 rfl rfl (by omega) (by rw [hz2]; omega) (by unfold maxLen; omega) (Nat.le_refl _) ?_; intro w1 hown1 hg1; have hB1 : Below w.heap.size w w1 := (Below.refl _ _).grown hg1 (Nat.le_refl _) (fun _ h => by cases h))
  refine wp_loop_rounds 1 ?_
  rw [rounds_succ]
  go_wp2
  refine wp_loop_rounds 1 ?_
  rw [rounds_succ]
  go_wp2
  refine wp_loop_rounds 1 ?_
  rw [rounds_succ]
  go_wp2
  refine wp_loop_rounds 1 ?_
  rw [rounds_succ]
  go_wp2
  go_ret
  exact ⟨rfl, hB1⟩
theorem info_FracLists : (Try.prog.info? 95).map (fun i => (i.zero, i.size, i.bytes)) = some (some (.slice none 0 0), 1, 24) := by kernel_rfl
set_option maxRecDepth 100000 in
theorem flat_FracLists (w : World) : Calls Try.prog 70 #[.slice none 0 0] w fun e w' => e = .returned (.bool true) ∧ Below w.heap.size w w' := by
  obtain ⟨i0, hi, hz0, hz1, hz2⟩ := info_parts info_FracLists
  go_enter Try.func70, Try.ntmps70
  go_wp2
  refine wp_loop_rounds 1 ?_
  rw [rounds_succ]
  go_wp2_with (at_make; refine wpList_make_own _ rfl _ _ 104 rfl w.heap.size 95 i0 (.slice none 0 0) 1 Try.underlying104 hi hz0 hz1 _ _ _ 0 rfl rfl (by omega) (by rw [hz2]; omega) (by unfold maxLen; omega) (Nat.le_refl _) ?_; intro w1 hown1 hg1; have hB1 : Below w.heap.size w w1 := (Below.refl _ _).grown hg1 (Nat.le_refl _) (fun _ h => by cases h))
  refine wp_loop_rounds 1 ?_
  rw [rounds_succ]
  go_wp2
  refine wp_loop_rounds 1 ?_
  rw [rounds_succ]
  go_wp2
  refine wp_loop_rounds 1 ?_
  rw [rounds_succ]
  go_wp2
  refine wp_loop_rounds 1 ?_
  rw [rounds_succ]
  go_wp2
  go_ret
  exact ⟨rfl, hB1⟩
theorem info_RowLists : (Try.prog.info? 99).map (fun i => (i.zero, i.size, i.bytes)) = some (some (.slice none 0 0), 1, 24) := by kernel_rfl
set_option maxRecDepth 100000 in
theorem flat_RowLists (w : World) : Calls Try.prog 71 #[.slice none 0 0] w fun e w' => e = .returned (.bool true) ∧ Below w.heap.size w w' := by
  obtain ⟨i0, hi, hz0, hz1, hz2⟩ := info_parts info_RowLists
  go_enter Try.func71, Try.ntmps71
  go_wp2
  refine wp_loop_rounds 1 ?_
  rw [rounds_succ]
  go_wp2_with (at_make; refine wpList_make_own _ rfl _ _ 105 rfl w.heap.size 99 i0 (.slice none 0 0) 1 Try.underlying105 hi hz0 hz1 _ _ _ 0 rfl rfl (by omega) (by rw [hz2]; omega) (by unfold maxLen; omega) (Nat.le_refl _) ?_; intro w1 hown1 hg1; have hB1 : Below w.heap.size w w1 := (Below.refl _ _).grown hg1 (Nat.le_refl _) (fun _ h => by cases h))
  refine wp_loop_rounds 1 ?_
  rw [rounds_succ]
  go_wp2
  refine wp_loop_rounds 1 ?_
  rw [rounds_succ]
  go_wp2
  refine wp_loop_rounds 1 ?_
  rw [rounds_succ]
  go_wp2
  refine wp_loop_rounds 1 ?_
  rw [rounds_succ]
  go_wp2
  go_ret
  exact ⟨rfl, hB1⟩
theorem info_EntryLists : (Try.prog.info? 98).map (fun i => (i.zero, i.size, i.bytes)) = some (some (.slice none 0 0), 1, 24) := by kernel_rfl
set_option maxRecDepth 100000 in
theorem flat_EntryLists (w : World) : Calls Try.prog 72 #[.slice none 0 0] w fun e w' => e = .returned (.bool true) ∧ Below w.heap.size w w' := by
  obtain ⟨i0, hi, hz0, hz1, hz2⟩ := info_parts info_EntryLists
  go_enter Try.func72, Try.ntmps72
  go_wp2
  refine wp_loop_rounds 1 ?_
  rw [rounds_succ]
  go_wp2_with (at_make; refine wpList_make_own _ rfl _ _ 106 rfl w.heap.size 98 i0 (.slice none 0 0) 1 Try.underlying106 hi hz0 hz1 _ _ _ 0 rfl rfl (by omega) (by rw [hz2]; omega) (by unfold maxLen; omega) (Nat.le_refl _) ?_; intro w1 hown1 hg1; have hB1 : Below w.heap.size w w1 := (Below.refl _ _).grown hg1 (Nat.le_refl _) (fun _ h => by cases h))
  refine wp_loop_rounds 1 ?_
  rw [rounds_succ]
  go_wp2
  refine wp_loop_rounds 1 ?_
  rw [rounds_succ]
  go_wp2
  refine wp_loop_rounds 1 ?_
  rw [rounds_succ]
  go_wp2
  refine wp_loop_rounds 1 ?_
  rw [rounds_succ]
  go_wp2
  go_ret
  exact ⟨rfl, hB1⟩
end Go.Proofs.Ytdlnilebnobllaa

/- What ApartBytes needs besides its walk: marks, an append that keeps what was there, parts of a slice. -/
namespace Go.Proofs.Ytdlnilebnobllaa
open Go.RowKit Go.Shelf Go.Sort

/-- finessekit.markByte of slice k -/
def mb (k i : Nat) : Nat := (markI (1000003 * ((k : Int) + 7) + (i : Int))).toNat
def mkl (k n : Nat) : List Nat := (List.range n).map (mb k)
theorem mb_cast (k i : Nat) : ((mb k i : Nat) : Int) = markI (1000003 * ((k : Int) + 7) + (i : Int)) := by
  unfold mb markI; omega
theorem mb_lt (k i : Nat) : mb k i < 256 := by unfold mb markI; omega
theorem mkl_length (k n : Nat) : (mkl k n).length = n := by simp [mkl]
theorem mkl_succ (k n : Nat) : mkl k (n + 1) = mkl k n ++ [mb k n] := by simp [mkl, List.range_succ]
theorem mkl_at (k n i : Nat) (h : i < n) : (mkl k n).getD i 0 = mb k i := by
  unfold mkl; rw [List.getD_eq_getElem?_getD, List.getElem?_map, List.getElem?_range h, Option.map_some, Option.getD_some]
theorem mkl_byte (k n i : Nat) : (mkl k n).getD i 0 < 256 := by
  rcases Nat.lt_or_ge i n with h | h
  · rw [mkl_at k n i h]; exact mb_lt k i
  · rw [List.getD_eq_getElem?_getD, List.getElem?_eq_none (by rw [mkl_length]; exact h)]; simp
theorem mkl_of (k : Nat) (l : List Nat) (h : ∀ i, i < l.length → l.getD i 0 = mb k i) : l = mkl k l.length := by
  apply List.ext_getElem
  · rw [mkl_length]
  · intro i h1 h2
    have e1 := h i h1
    have e2 := mkl_at k l.length i h1
    rw [List.getD_eq_getElem?_getD, List.getElem?_eq_getElem h1] at e1
    rw [List.getD_eq_getElem?_getD, List.getElem?_eq_getElem h2] at e2
    simp only [Option.getD_some] at e1 e2
    rw [e1, e2]
theorem mkl_take (k n m : Nat) : (mkl k (n + m)).take n = mkl k n := by
  have := mkl_of k ((mkl k (n + m)).take n) (fun i hi => by
    rw [List.length_take, mkl_length] at hi
    rw [List.getD_eq_getElem?_getD, List.getElem?_take_of_lt (by omega), ← List.getD_eq_getElem?_getD]
    exact mkl_at k _ i (by omega))
  rw [List.length_take, mkl_length, Nat.min_eq_left (by omega)] at this
  exact this
theorem kit_mark2 (k i : Nat) (hk : k < 8) (hi : i < 1000) (w : World) :
    Calls Try.prog 55 #[.int .i64 (k : Int), .int .i64 (i : Int)] w fun e w' => e = .returned (.int .i64 (1000003 * ((k : Int) + 7) + (i : Int))) ∧ w = w' := by
  go_enter Try.func55, Try.ntmps55
  go_wp2
  go_ret
  exact ⟨rfl, rfl⟩
theorem kit_mb (k i : Nat) (hk : k < 8) (hi : i < 1000) (w : World) :
    Calls Try.prog 39 #[.int .i64 (k : Int), .int .i64 (i : Int)] w fun e w' => e = .returned (.int .u8 (mb k i : Int)) ∧ w = w' := by
  have hm := kit_mark2 k i hk hi w
  have HE := Lib.hid (mb_cast k i)
  have hx : 0 ≤ 1000003 * ((k : Int) + 7) + (i : Int) ∧ 1000003 * ((k : Int) + 7) + (i : Int) < 20000000 := by omega
  generalize 1000003 * ((k : Int) + 7) + (i : Int) = x at *
  have HM := Lib.hid hm
  clear hm
  go_enter Try.func39, Try.ntmps39
  go_wp2_with (go_at_call 55; refine HM.out.mono ?_; rintro e w' ⟨rfl, rfl⟩)
  go_ret
  exact ⟨by rw [HE.out]; rfl, rfl⟩

/-- the beginning of a slice -/
theorem own_shrink {w : World} {base g n cap m : Nat} {l : List Nat} (h : OwnU w base (.slice (some ⟨g, 0, none⟩) n cap) l) (hm : m ≤ l.length) : OwnU w base (.slice (some ⟨g, 0, none⟩) m cap) (l.take m) := by
  obtain ⟨h1, h2, h3⟩ := h
  have hl : (l.take m).length = m := by rw [List.length_take, Nat.min_eq_left hm]
  refine ⟨h1, by rw [flatU_len, Nat.mul_one], ?_⟩
  rw [hl]
  rcases h3 with ⟨h, _⟩ | ⟨g', cap', cur, h, hb, hh, hn, hcm, hcs, ht⟩
  · cases h
  · simp only [Value.slice.injEq, Option.some.injEq, Addr.mk.injEq, and_true] at h
    obtain ⟨rfl, rfl, rfl⟩ := h
    refine .inr ⟨g, cap, cur, rfl, hb, hh, by omega, hcm, hcs, ?_⟩
    rw [flatU_eq] at ht ⊢
    rw [Nat.mul_one] at ht ⊢
    rw [List.map_take, ← ht, List.take_take, Nat.min_eq_left hm]
theorem own_cap {w : World} {base base' g n cap n' cap' : Nat} {l l' : List Nat} (h : OwnU w base (.slice (some ⟨g, 0, none⟩) n cap) l) (h' : OwnU w base' (.slice (some ⟨g, 0, none⟩) n' cap') l') : cap = cap' := by
  obtain ⟨-, -, h3⟩ := h
  obtain ⟨-, -, h3'⟩ := h'
  rcases h3 with ⟨h, _⟩ | ⟨g1, c1, cur, h, hb, hh, hn, hcm, hcs, ht⟩
  · cases h
  rcases h3' with ⟨h', _⟩ | ⟨g2, c2, cur', h', hb', hh', hn', hcm', hcs', ht'⟩
  · cases h'
  simp only [Value.slice.injEq, Option.some.injEq, Addr.mk.injEq, and_true] at h h'
  obtain ⟨rfl, -, rfl⟩ := h
  obtain ⟨rfl, -, rfl⟩ := h'
  rw [hh] at hh'
  injection hh' with hh'
  injection hh' with hh'
  subst hh'
  omega
/-- append(v, src...) on a slice of one's own: in place or in a new block; what v itself says stays -/
theorem appE {w : World} {ops : Array Oper} {rest : List Oper} {o : Oper} {a : Act} {Q : Exit → Act → World → Prop} (hgd : o.guard = none) (s x : Operand)
    (ho : o.op = .call { callee := .builtin .append, args := #[s, x], argTypes := #[25, 25] })
    (base : Nat) (v : Value) (zs ys : List Nat) (hs : a.eval s = v) (hown : OwnU w base v zs) (ad : Addr) (m c : Nat) (hx : a.eval x = .slice (some ad) m c) (hy : Byt w (some ad) m ys) (hm : 0 < m)
    (hbytes : zs.length + m ≤ 140737488355328) (hbase : base ≤ w.heap.size)
    (h : ∀ v' w', OwnU w' base v' (zs ++ ys) → OwnU w' base v zs → w.grownBy w' v.ownBlock → ((v'.ownBlock = v.ownBlock ∧ v ≠ .slice none 0 0) ∨ ∃ g, v'.ownBlock = some g ∧ w.heap.size ≤ g) → wpList Try.prog ops Q rest (a.put o.dst v') w') : wpList Try.prog ops Q (o :: rest) a w := by
  obtain ⟨i0, hi, hz0, hz1, hz2⟩ := info_parts info_u8'
  have hl := hy.length
  have hml : zs.length + m ≤ maxLen := by unfold maxLen; omega
  have grow : ∀ (ao : Option Addr) (cap : Nat), v = .slice ao zs.length cap → (ao = none → zs.length = 0 ∧ cap = 0) → (∀ b, ao = some b → ∀ j u, (zs.flatMap encU)[j]? = some u → w.cell? (b.add j) = some u) → cap < zs.length + m → wpList Try.prog ops Q (o :: rest) a w := by
    intro ao cap hv hnone hcell hfull
    refine wpList_append_grows w hgd s x 25 ho 5 i0 (.int .u8 0) 1 1 Try.underlying25 hi hz0 hz1 hz2 rfl (by decide) ao zs.length cap (zs.flatMap encU) (by rw [hs, hv]) hnone (by rw [flatU_len, Nat.mul_one]) hcell ad m c (ys.flatMap encU) hx (by rw [flatU_len, hl, Nat.mul_one]) (byt_row hy ad rfl) (flatU_one ys) hfull hml (by omega) ?_
    intro v' w' h1 h2
    have hown' : OwnU w' w.heap.size v' (zs ++ ys) := ⟨encU_len, by rw [List.length_append, List.flatMap_append, hl]; exact h1⟩
    refine h v' w' (hown'.mono hbase) (Owns.kept hown h2 (.inr rfl)) ⟨h2.os, h2.tape, h2.output, h2.size, fun k hk _ => h2.block k hk (by simp)⟩ (.inr ?_)
    rcases hown'.form with ⟨_, he⟩ | ⟨g, c', hv', hg, _⟩
    · have := (List.append_eq_nil_iff.1 he).2
      rw [this] at hl
      simp at hl; omega
    · exact ⟨g, by rw [hv']; rfl, hg⟩
  rcases hown.form with ⟨hv, hz⟩ | ⟨g, cap, hv, hg, hgs, hlc, hcm⟩
  · subst hz
    exact grow none 0 hv (fun _ => ⟨rfl, rfl⟩) (fun b h => by cases h) (by simp; exact hm)
  · by_cases hfit : zs.length + m ≤ cap
    · have hown0 := hown
      rw [hv] at hown
      refine wpList_append_fits w hgd s x 25 ho base 5 i0 1 Try.underlying25 hi hz1 g zs.length cap (zs.flatMap encU) (by rw [hs, hv]) hown.2 ad m c (ys.flatMap encU) hx (by rw [flatU_len, hl, Nat.mul_one]) (byt_row hy ad rfl) (flatU_one ys) hfit ?_
      intro w' h1 h2
      have hown' : OwnU w' base (.slice (some ⟨g, 0, none⟩) (zs.length + m) cap) (zs ++ ys) := ⟨encU_len, by rw [List.length_append, List.flatMap_append, hl]; exact h1⟩
      have hsh := own_shrink hown' (m := zs.length) (by rw [List.length_append]; omega)
      rw [List.take_left] at hsh
      exact h _ w' hown' (by rw [hv]; exact hsh) (by rw [hv]; exact h2) (.inl ⟨by rw [hv]; rfl, by rw [hv]; intro e; cases e⟩)
    · refine grow (some ⟨g, 0, none⟩) cap hv (fun h => by cases h) (fun b hb j u hu => ?_) (by omega)
      have hb := (Option.some.inj hb).symm
      subst hb
      have hj : j < zs.length := by have := (List.getElem?_eq_some_iff.1 hu).1; rwa [flatU_len] at this
      rw [hv] at hown
      have := (own_at hown hj).1
      have he := (flatU zs j hj).symm.trans hu
      rw [← he]
      unfold Addr.add
      split
      · rename_i h0; have h0 : j = 0 := by simpa using h0
        subst h0; exact this
      · rw [← this]; simp
end Go.Proofs.Ytdlnilebnobllaa

/- The contract of finessekit.flatBytes on two slices of one's own over this seat's program. -/
namespace Go.Proofs.Ytdlnilebnobllaa
open Go.RowKit Go.Shelf Go.Sort

/-- two slices whose headers lie at the head of block h, each in a block of its own -/
structure Two (w : World) (base h q : Nat) (cs : Array Value) (aa : Nat → Option Addr) (n cc : Nat → Nat) (c : Nat → List Nat) : Prop where
  cell : ∀ j, j < 2 → w.cell? ⟨h, j, none⟩ = some (.slice (aa j) (n j) (cc j))
  own : ∀ j, j < 2 → OwnU w base (.slice (aa j) (n j) (cc j)) (c j)
  lt : h < w.heap.size
  hb : base ≤ w.heap.size
  bag : Row w q 108 cs
/-- their blocks are apart from each other and from the headers' block -/
structure Apt (h q : Nat) (aa : Nat → Option Addr) : Prop where
  one : ∀ a b, aa 0 = some a → aa 1 = some b → a.block ≠ b.block
  far : ∀ j a, j < 2 → aa j = some a → a.block ≠ h
  bag : ∀ j a, j < 2 → aa j = some a → a.block ≠ q
section
variable {w w' : World} {base h q : Nat} {cs : Array Value} {aa : Nat → Option Addr} {n cc : Nat → Nat} {c c' : Nat → List Nat}
theorem Two.len (H : Two w base h q cs aa n cc c) {j : Nat} (hj : j < 2) : (c j).length = n j := by
  obtain ⟨a, cap, he, _⟩ := (H.own j hj).slice
  injection he with _ h2 _
  exact h2.symm
theorem Two.addr (H : Two w base h q cs aa n cc c) {j : Nat} (hj : j < 2) (h0 : 0 < n j) : ∃ g, aa j = some ⟨g, 0, none⟩ := by
  obtain ⟨a, cap, he, hg⟩ := (H.own j hj).slice
  injection he with h1 h2 _
  rw [h1]
  exact hg (by intro e; have := H.len hj; rw [e] at this; simp at this; omega)
theorem Two.below (H : Two w base h q cs aa n cc c) (hb : Below w.heap.size w w') : Two w' base h q cs aa n cc c :=
  ⟨fun j hj => (hb.cell (by exact H.lt)).trans (H.cell j hj), fun j hj => Owns.below (H.own j hj) hb, Nat.lt_of_lt_of_le H.lt hb.size, Nat.le_trans H.hb hb.size, H.bag.below H.bag.lt hb⟩
theorem grownBy_setCellU (w : World) (a : Addr) (u : Value) : w.grownBy (w.setCell a u) (some a.block) :=
  ⟨rfl, rfl, rfl, by simp, fun k _ hk => Below.heap_setCell _ _ _ k (fun e => hk (by rw [e]))⟩
/-- one byte of slice k is set -/
theorem Two.put (H : Two w base h q cs aa n cc c) (A : Apt h q aa) {k g i z : Nat} (hk : k < 2) (hg : aa k = some ⟨g, 0, none⟩) (hi : i < n k) : Two (w.setCell ⟨g, i, none⟩ (.int .u8 (z : Int))) base h q cs aa n cc (fun j => if j = k then (c k).set i z else c j) := by
  have hl := H.len hk
  have hgh : g ≠ h := by have := A.far k _ hk hg; simpa using this
  have hgq : g ≠ q := by have := A.bag k _ hk hg; simpa using this
  refine ⟨fun j hj => ?_, fun j hj => ?_, by simpa using H.lt, by simpa using H.hb, H.bag.same (Below.heap_setCell _ _ _ q (by simpa using fun h => hgq h.symm))⟩
  · rw [World.cell?_setCell_far _ _ _ _ (by simpa using hgh)]
    exact H.cell j hj
  · by_cases hjk : j = k
    · subst hjk
      simp only [if_true]
      have := H.own j hj
      rw [hg] at this ⊢
      exact own_put this (by omega) z
    · simp only [if_neg hjk]
      refine Owns.kept (row := some g) (H.own j hj) (grownBy_setCellU _ _ _) (.inl ?_)
      cases haj : aa j with
      | none => intro e; cases e
      | some ad =>
        intro e
        simp only [Value.ownBlock, Option.some.injEq] at e
        rcases (show (j = 0 ∧ k = 1) ∨ (j = 1 ∧ k = 0) by omega) with ⟨rfl, rfl⟩ | ⟨rfl, rfl⟩
        · exact A.one _ _ haj hg e.symm
        · exact A.one _ _ hg haj e
end

theorem kit_mbb (k i : Nat) (hk : k < 8) (hi : i < 1000) (w : World) :
    Calls Try.prog 39 #[.int .i64 (k : Int), .int .i64 (i : Int)] w fun e w' => e = .returned (.int .u8 (mb k i : Int)) ∧ Below w.heap.size w w' :=
  (kit_mb k i hk hi w).mono fun _ _ h => ⟨h.1, by rw [← h.2]; exact Below.refl _ _⟩
/-- marked up to slice k, and in slice k up to i -/
structure MarkTo (n : Nat → Nat) (c : Nat → List Nat) (k i : Nat) : Prop where
  all : ∀ j, j < k → j < 2 → ∀ e, e < n j → (c j).getD e 0 = mb j e
  part : ∀ e, e < i → (c k).getD e 0 = mb k e
theorem MarkTo.zero (n : Nat → Nat) (c : Nat → List Nat) : MarkTo n c 0 0 := ⟨fun _ h => by omega, fun _ h => by omega⟩
theorem MarkTo.next {n : Nat → Nat} {c : Nat → List Nat} {k : Nat} (h : MarkTo n c k (n k)) : MarkTo n c (k + 1) 0 :=
  ⟨fun j hj h2 e he => by
    rcases (show j < k ∨ j = k by omega) with h3 | h3
    · exact h.all j h3 h2 e he
    · subst h3; exact h.part e he, fun _ h => by omega⟩
theorem MarkTo.step {n : Nat → Nat} {c : Nat → List Nat} {k i : Nat} (h : MarkTo n c k i) (hi : i < (c k).length) : MarkTo n (fun j => if j = k then (c k).set i (mb k i) else c j) k (i + 1) := by
  refine ⟨fun j hj h2 e he => ?_, fun e he => ?_⟩
  · simp only [if_neg (show ¬ j = k by omega)]; exact h.all j hj h2 e he
  · simp only [if_true]
    by_cases hei : e = i
    · subst hei
      rw [List.getD_eq_getElem?_getD, List.getElem?_set_self hi, Option.getD_some]
    · rw [List.getD_eq_getElem?_getD, List.getElem?_set_ne (fun h => hei h.symm), ← List.getD_eq_getElem?_getD]
      exact h.part e (by omega)

theorem own_block_form {w : World} {base g : Nat} {v : Value} {l : List Nat} (h : OwnU w base v l) (hg : v.ownBlock = some g) : ∃ cap, v = .slice (some ⟨g, 0, none⟩) l.length cap := by
  rcases h.form with ⟨rfl, _⟩ | ⟨g', cap, rfl, _⟩
  · cases hg
  · simp only [Value.ownBlock, Option.some.injEq] at hg
    subst hg
    exact ⟨cap, rfl⟩
/-- the block of v is that of slice k, or a late one -/
def Blk (gb : Nat) (aa : Nat → Option Addr) (k : Nat) (v : Value) : Prop := v.ownBlock = (aa k).map (·.block) ∨ ∃ g, v.ownBlock = some g ∧ gb ≤ g
/-- what an append to v leaves of the two slices -/
theorem Two.appended {w w' : World} {base h q gb k : Nat} {cs : Array Value} {aa : Nat → Option Addr} {n cc : Nat → Nat} {c : Nat → List Nat} {v : Value} {zs : List Nat} (T : Two w base h q cs aa n cc c) (A : Apt h q aa) (hgb : ∀ j, j < 2 → ∀ ad, aa j = some ad → ad.block < gb) (hhg : h < gb) (hqg : q < gb) (hk : k < 2)
    (hB : Blk gb aa k v) (hv : OwnU w base v zs) (hle : n k ≤ zs.length) (hc : c k = zs.take (n k)) (hg : w.grownBy w' v.ownBlock) (hv' : OwnU w' base v zs) : Two w' base h q cs aa n cc c := by
  have hsl : ∀ j, (Value.slice (aa j) (n j) (cc j)).ownBlock = (aa j).map (·.block) := by
    intro j; cases aa j <;> rfl
  have hne : some h ≠ v.ownBlock := by
    rcases hB with hB | ⟨g, hB, hgg⟩
    · rw [hB]
      cases hak : aa k with
      | none => simp
      | some ad => have := A.far k ad hk hak; simp; omega
    · rw [hB]; simp; omega
  have hnq : some q ≠ v.ownBlock := by
    rcases hB with hB | ⟨g, hB, hgg⟩
    · rw [hB]
      cases hak : aa k with
      | none => simp
      | some ad => have := A.bag k ad hk hak; simp; omega
    · rw [hB]; simp; omega
  refine ⟨fun j hj => ?_, fun j hj => ?_, Nat.lt_of_lt_of_le T.lt hg.size, Nat.le_trans T.hb hg.size, T.bag.same (hg.block q T.bag.lt hnq)⟩
  · rw [← T.cell j hj]
    unfold World.cell?
    rw [hg.block h T.lt hne]
  · by_cases hjk : j = k
    · subst hjk
      rcases hB with hB | ⟨g, hB, hgg⟩
      · cases haj : aa j with
        | none =>
          rw [haj] at hB
          have := Owns.kept (T.own j hj) hg (.inr hB)
          rwa [haj] at this
        | some ad =>
          rw [haj] at hB
          obtain ⟨cap, hve⟩ := own_block_form hv hB
          obtain ⟨cap2, hse⟩ := own_block_form (T.own j hj) (g := ad.block) (by rw [hsl, haj]; rfl)
          have e1 := T.own j hj
          rw [hse] at e1
          have hcc := own_cap (hve ▸ hv) e1
          rw [← haj, hse, ← hcc, T.len hj]
          have := own_shrink (hve ▸ hv') (m := n j) hle
          rw [hc]
          exact this
      · refine Owns.kept (T.own j hj) hg (.inl ?_)
        rw [hB, hsl]
        cases haj : aa j with
        | none => simp
        | some ad => have := hgb j hj ad haj; simp; omega
    · refine Owns.kept (T.own j hj) hg ?_
      rw [hsl]
      rcases hB with hB | ⟨g, hB, hgg⟩
      · rw [hB]
        cases hak : aa k with
        | none => exact .inr rfl
        | some bd =>
          refine .inl ?_
          cases haj : aa j with
          | none => simp
          | some ad =>
            simp only [Option.map_some, ne_eq, Option.some.injEq]
            rcases (show (j = 0 ∧ k = 1) ∨ (j = 1 ∧ k = 0) by omega) with ⟨rfl, rfl⟩ | ⟨rfl, rfl⟩
            · exact fun e => A.one _ _ haj hak e.symm
            · exact A.one _ _ hak haj
      · rw [hB]
        refine .inl ?_
        cases haj : aa j with
        | none => simp
        | some ad => have := hgb j hj ad haj; simp; omega

/-- the grown slices, so far k of them -/
structure Gs (w : World) (base gb : Nat) (gv : Nat → Value) (k : Nat) (l : Nat → List Nat) : Prop where
  row : Row w gb 25 #[gv 0, gv 1]
  own : ∀ j, j < k → j < 2 → OwnU w base (gv j) (l j)
/-- the blocks of the first k grown slices -/
def Late (gb sz : Nat) (aa : Nat → Option Addr) (gv : Nat → Value) (k : Nat) : Prop := ∀ j, j < k → j < 2 → Blk (gb + 1) aa j (gv j) ∧ ∀ g, (gv j).ownBlock = some g → g < sz
theorem Gs.below {w w' : World} {base gb k : Nat} {gv : Nat → Value} {l : Nat → List Nat} (G : Gs w base gb gv k l) (hb : Below w.heap.size w w') : Gs w' base gb gv k l :=
  ⟨G.row.below G.row.lt hb, fun j h1 h2 => Owns.below (G.own j h1 h2) hb⟩
theorem Gs.appended {w w' : World} {base h q gb sz k : Nat} {aa : Nat → Option Addr} {gv : Nat → Value} {l : Nat → List Nat} {v : Value} (G : Gs w base gb gv k l) (A : Apt h q aa) (hgb : ∀ j, j < 2 → ∀ ad, aa j = some ad → ad.block < gb) (hk : k < 2)
    (hL : Late gb sz aa gv k) (hB : Blk sz aa k v) (hsz : gb + 1 ≤ sz) (hg : w.grownBy w' v.ownBlock) : Gs w' base gb gv k l := by
  refine ⟨G.row.same (hg.block gb G.row.lt ?_), fun j h1 h2 => Owns.kept (G.own j h1 h2) hg ?_⟩
  · rcases hB with hB | ⟨g, hB, hgg⟩
    · rw [hB]
      cases hak : aa k with
      | none => simp
      | some ad => have := hgb k hk ad hak; simp; omega
    · rw [hB]; simp; omega
  · obtain ⟨hj, hjs⟩ := hL j h1 h2
    rcases hB with hB | ⟨g, hB, hgg⟩
    · rw [hB]
      cases hak : aa k with
      | none => exact .inr rfl
      | some bd =>
        refine .inl ?_
        have hb2 := hgb k hk bd hak
        rcases hj with hj | ⟨g', hj, hg'⟩
        · rw [hj]
          cases haj : aa j with
          | none => simp
          | some ad =>
            simp only [Option.map_some, ne_eq, Option.some.injEq]
            rcases (show (j = 0 ∧ k = 1) ∨ (j = 1 ∧ k = 0) by omega) with ⟨rfl, rfl⟩ | ⟨rfl, rfl⟩
            · exact fun e => A.one _ _ haj hak e.symm
            · exact A.one _ _ hak haj
        · rw [hj]; simp; omega
    · refine .inl ?_
      rw [hB]
      intro e
      have := hjs g e.symm
      omega
theorem blk_self (gb : Nat) (aa : Nat → Option Addr) (k m cap : Nat) : Blk gb aa k (.slice (aa k) m cap) := by
  refine .inl ?_
  cases aa k <;> rfl
theorem Blk.mono {gb gb' k : Nat} {aa : Nat → Option Addr} {v : Value} (h : Blk gb aa k v) (hg : gb' ≤ gb) : Blk gb' aa k v := by
  rcases h with h | ⟨g, h, hh⟩
  · exact .inl h
  · exact .inr ⟨g, h, by omega⟩
theorem Blk.next {lo k : Nat} {aa : Nat → Option Addr} {v v' : Value} {w : World} (h : Blk lo aa k v) (hlo : lo ≤ w.heap.size) (hv : (v'.ownBlock = v.ownBlock ∧ v ≠ .slice none 0 0) ∨ ∃ g, v'.ownBlock = some g ∧ w.heap.size ≤ g) : Blk lo aa k v' := by
  rcases hv with ⟨hv, _⟩ | ⟨g, hv, hg⟩
  · unfold Blk; rw [hv]; exact h
  · exact .inr ⟨g, hv, by omega⟩
theorem Blk.ne {gb k : Nat} {aa : Nat → Option Addr} {v : Value} (h : Blk (gb + 1) aa k v) (hgb : ∀ ad, aa k = some ad → ad.block < gb) : some gb ≠ v.ownBlock := by
  rcases h with h | ⟨g, h, hg⟩
  · rw [h]
    cases hak : aa k with
    | none => simp
    | some ad => have := hgb ad hak; simp; omega
  · rw [h]; simp; omega
theorem Two.far {w : World} {base h q b i : Nat} {cs : Array Value} {u : Value} {aa : Nat → Option Addr} {n cc : Nat → Nat} {c : Nat → List Nat} (T : Two w base h q cs aa n cc c) (hh : h < b) (hq : q < b) (hb : ∀ j, j < 2 → ∀ ad, aa j = some ad → ad.block < b) : Two (w.setCell ⟨b, i, none⟩ u) base h q cs aa n cc c := by
  refine ⟨fun j hj => ?_, fun j hj => Owns.kept (row := some b) (T.own j hj) (grownBy_setCellU _ _ _) (.inl ?_), by simpa using T.lt, by simpa using T.hb, T.bag.same (Below.heap_setCell _ _ _ q (by simp; omega))⟩
  · rw [World.cell?_setCell_far _ _ _ _ (by simp; omega)]
    exact T.cell j hj
  · cases haj : aa j with
    | none => simp [Value.ownBlock]
    | some ad => have := hb j hj ad haj; simp [Value.ownBlock]; omega
/-- the k-th grown slice is laid down -/
theorem Gs.put {w : World} {base gb sz k : Nat} {aa : Nat → Option Addr} {gv : Nat → Value} {l : Nat → List Nat} {v : Value} (G : Gs w base gb gv k l) (hgb : ∀ j, j < 2 → ∀ ad, aa j = some ad → ad.block < gb) (hk : k < 2)
    (hL : Late gb sz aa gv k) (hB : Blk (gb + 1) aa k v) (hv : OwnU w base v (l k)) (hsz : sz ≤ w.heap.size) :
    Gs (w.setCell ⟨gb, k, none⟩ v) base gb (fun j => if j = k then v else gv j) (k + 1) l ∧ Late gb (w.setCell ⟨gb, k, none⟩ v).heap.size aa (fun j => if j = k then v else gv j) (k + 1) := by
  refine ⟨⟨?_, fun j h1 h2 => ?_⟩, fun j h1 h2 => ?_⟩
  · have := G.row.set k v
    rcases (show k = 0 ∨ k = 1 by omega) with rfl | rfl
    · exact this
    · exact this
  · by_cases hjk : j = k
    · subst hjk
      simp only [if_true]
      exact Owns.kept (row := some gb) hv (grownBy_setCellU _ _ _) (.inl (hB.ne (hgb j h2)))
    · simp only [if_neg hjk]
      exact Owns.kept (row := some gb) (G.own j (by omega) h2) (grownBy_setCellU _ _ _) (.inl ((hL j (by omega) h2).1.ne (hgb j h2)))
  · by_cases hjk : j = k
    · subst hjk
      simp only [if_true]
      refine ⟨hB, fun g hg => ?_⟩
      have := (World.ownsRow.lt hv.2 g hg).2
      simpa using this
    · simp only [if_neg hjk]
      obtain ⟨h3, h4⟩ := hL j (by omega) h2
      refine ⟨h3, fun g hg => ?_⟩
      have := h4 g hg
      simp; omega
theorem gs_cell {w : World} {gb k : Nat} {T : TypeId} {gv : Nat → Value} (hk : k < 2) (h : Row w gb T #[gv 0, gv 1]) : w.cell? ⟨gb, k, none⟩ = some (gv k) := by
  rw [h.cell k]
  rcases (show k = 0 ∨ k = 1 by omega) with h | h <;> rw [h] <;> rfl
theorem info_Bytes : (Try.prog.info? 25).map (fun i => (i.zero, i.size, i.bytes)) = some (some (.slice none 0 0), 1, 24) := by kernel_rfl
theorem full_row {w : World} {base g n : Nat} {T : TypeId} {xs : List Value} (h : w.ownsRow base T 1 (.slice (some ⟨g, 0, none⟩) n n) n xs) : Row w g T xs.toArray := by
  rcases h.2 with ⟨h, _⟩ | ⟨g', cap, cur, h, hb, hh, hn, hcm, hcs, ht⟩
  · cases h
  · simp only [Value.slice.injEq, Option.some.injEq, Addr.mk.injEq, and_true, true_and] at h
    obtain ⟨rfl, rfl⟩ := h
    rw [Nat.mul_one] at hcs ht
    have e : cur.toList = xs := by rw [← ht, List.take_of_length_le (by simp; omega)]
    have e2 : cur = xs.toArray := by rw [← e]
    rw [← e2]; exact hh

set_option maxHeartbeats 1000000 in
set_option maxRecDepth 100000 in
theorem flat_two (h hc base q : Nat) (cs : Array Value) (aa : Nat → Option Addr) (n cc : Nat → Nat) (c : Nat → List Nat) (w : World) (H : Two w base h q cs aa n cc c) (A : Apt h q aa) (hn : ∀ j, j < 2 → n j ≤ 100) :
    Calls Try.prog 58 #[.slice (some ⟨h, 0, none⟩) 2 hc] w fun e w' => e = .returned (.bool true) ∧ Below base w w' ∧ Row w' q 108 cs := by
  have HH := Lib.hid H
  have hbase := H.hb
  have hhw := H.lt
  have hB0 := Below.refl base w
  clear H
  go_enter Try.func58, Try.ntmps58
  go_wp2_with fail
  go_loopg [3, 4] 2 (fun gk s i wr => ∃ (k : Nat) (c' : Nat → List Nat), gk = 2 - k ∧ k ≤ 2 ∧ s = .int .i64 (k : Int) ∧ Two wr base h q cs aa n cc c' ∧ MarkTo n c' k 0 ∧ Below base w wr)
  case atStart => exact ⟨0, c, by omega, by omega, rfl, HH.out, MarkTo.zero _ _, hB0⟩
  case round =>
    obtain ⟨k, c1, rfl, hk, rfl, hT, hM, hB⟩ := hrel
    by_cases hlt : k < 2
    · have hck := hT.cell k hlt
      have hnk := hn k hlt
      have hltB : decide ((k : Int) < 2) = true := by rw [decide_eq_true_eq]; omega
      go_wp2_with fail
      go_loopg [4] (n k) (fun gi i wr' => ∃ (e : Nat) (c' : Nat → List Nat), gi = n k - e ∧ e ≤ n k ∧ i = .int .i64 (e : Int) ∧ Two wr' base h q cs aa n cc c' ∧ MarkTo n c' k e ∧ Below base w wr')
      case atStart => exact ⟨0, c1, by omega, by omega, rfl, hT, hM, hB⟩
      case round =>
        obtain ⟨e, c2, rfl, he, rfl, hT2, hM2, hB2⟩ := hrel
        have hck2 := hT2.cell k hlt
        have hl2 := hT2.len hlt
        by_cases hel : e < n k
        · obtain ⟨g, hg⟩ := hT2.addr hlt (by omega)
          have ho2 := hT2.own k hlt
          rw [hg] at hck2 ho2
          have HLB := Lib.hid hltB
          have hb2 := hT2.lt
          have rck := fun dd os => cell_regrown hck2 dd os
          have helB : decide ((e : Int) < (n k : Int)) = true := by rw [decide_eq_true_eq]; omega
          have hmk := kit_mbb k e (by omega) (by omega)
          have HMK := Lib.hid hmk
          have hkI : (k : Int) < 2 := by omega
          clear hmk
          go_wp2_with fail
          refine wp_region_below_tail 9 (by kernel_rfl) (by kernel_rfl) ?_
          simp only [List.take_succ_cons, List.take_zero, List.drop_succ_cons, List.drop_zero]
          repeat (quiet_step (exact Calls.regrown_of (HMK.out _)))
          refine wpQuiet_nil ?_
          rintro _ ⟨p, rfl⟩
          have hb3 := below_regrown wr p.d p.os
          generalize grow (redrawn wr p.d) p.os = w3 at *
          have hT3 := hT2.below hb3
          have hB3 := hB2.trans (hb3.mono hT2.hb)
          have ho3 := hT3.own k hlt
          rw [hg] at ho3
          obtain ⟨ce, fe⟩ := own_at ho3 (k := e) (by omega)
          have hT4 := hT3.put A hlt hg hel (z := mb k e)
          have hM4 := hM2.step (i := e) (by omega)
          have hgb : base ≤ g ∧ g < w3.heap.size := by
            have := (World.ownsRow.lt ho3.2 g rfl); exact this
          have hB4 := hB3.setCell (p := ⟨g, e, none⟩) hgb.1 (.int .u8 (mb k e : Int))
          clear rck hck2 ho2 ho3 hB3 hT3 hb3 hB2 hT2 hM2 hb2
          go_wp2_with fail
          go_roundg (n k - (e + 1))
          case rel => exact ⟨e + 1, _, by omega, by omega, by go_num, hT4, hM4, hB4⟩
          case measure => omega
        · have hee : e = n k := by omega
          subst hee
          have helB : decide ((n k : Int) < (n k : Int)) = false := by rw [decide_eq_false_iff_not]; omega
          have hM3 := hM2.next
          clear hT hM hck hM2
          go_wp2_with fail
          go_roundg (2 - (k + 1))
          case rel => exact ⟨k + 1, c2, by omega, by omega, by go_num, hT2, hM3, hB2⟩
          case measure => omega
    · obtain rfl : k = 2 := by omega
      have hltB : decide (((2 : Nat) : Int) < 2) = false := by decide
      have hc1 : ∀ j, j < 2 → c1 j = mkl j (n j) := fun j hj => by
        have := mkl_of j (c1 j) (fun i hi => hM.all j hj hj i (by have := hT.len hj; omega))
        rwa [hT.len hj] at this
      have hT1 : Two wr base h q cs aa n cc (fun j => mkl j (n j)) := ⟨hT.cell, fun j hj => by have := hT.own j hj; rwa [hc1 j hj] at this, hT.lt, hT.hb, hT.bag⟩
      clear hT hM hc1
      obtain ⟨i2, hi2, hy0, hy1, hy2⟩ := info_parts info_Bytes
      go_wp2_with (at_make; go_loud (refine wpList_make_full _ rfl (.tmp 41) (.tmp 41) 71 rfl base 25 i2 (.slice none 0 0) 1 Try.underlying71 hi2 hy0 hy1 .i64 .i64 2 2 2 rfl rfl rfl rfl (by rw [hy2]; decide) (by unfold maxLen; decide) hT1.hb ?_; intro w2 ho2 hg2))
      have hR2 : Row w2 wr.heap.size 25 #[.slice none 0 0, .slice none 0 0] := by
        have h2 := full_row ho2
        have e2 : (madeCells (Value.slice none 0 0).cells (2 * 1)).toList.toArray = #[.slice none 0 0, .slice none 0 0] := by kernel_rfl
        rw [e2] at h2
        exact h2
      have hb2 : Below wr.heap.size wr w2 := (Below.refl _ _).grown hg2 (Nat.le_refl _) (fun _ h => by cases h)
      have hT2 := hT1.below hb2
      have hB2 := hB.trans (hb2.mono hT1.hb)
      have hG2 : Gs w2 base wr.heap.size (fun _ => .slice none 0 0) 0 (fun j => mkl j (n j + 64)) := ⟨hR2, fun j h => by omega⟩
      have hgbA : ∀ j, j < 2 → ∀ ad, aa j = some ad → ad.block < wr.heap.size := fun j hj ad had => (World.ownsRow.lt (hT1.own j hj).2 ad.block (by rw [had]; rfl)).2
      have hhgb := hT1.lt
      have hqgb := hT1.bag.lt
      have hgbb : base ≤ wr.heap.size := hT1.hb
      have HGA := Lib.hid hgbA
      clear hgbA hR2 hb2 hT1 hB ho2 hg2 hi2 hy0 hy1 hy2
      generalize wr.heap.size = gb at *
      go_loopg [6, 7, 8] 2 (fun gk s _ _ wr => ∃ (k : Nat) (gv : Nat → Value), gk = 2 - k ∧ k ≤ 2 ∧ s = .int .i64 (k : Int) ∧ Two wr base h q cs aa n cc (fun j => mkl j (n j)) ∧ Gs wr base gb gv k (fun j => mkl j (n j + 64)) ∧ Late gb wr.heap.size aa gv k ∧ Below base w wr)
      case atStart => exact ⟨0, fun _ => .slice none 0 0, by omega, by omega, rfl, hT2, hG2, fun j h => by omega, hB2⟩
      case round =>
        clear hT2 hG2 hB2
        obtain ⟨k, gv, rfl, hk, rfl, hT3, hG3, hL3, hB3⟩ := hrel
        by_cases hlt : k < 2
        · have hck := hT3.cell k hlt
          have hnk := hn k hlt
          have hltB : decide ((k : Int) < 2) = true := by rw [decide_eq_true_eq]; omega
          go_wp2_with fail
          obtain ⟨sz, hsz⟩ : ∃ sz, sz = wr.heap.size := ⟨_, rfl⟩
          have hszb : gb + 1 ≤ sz := by have := hG3.row.lt; omega
          rw [← hsz] at hL3
          have hown0 := hT3.own k hlt
          have hsz0 : sz ≤ wr.heap.size := by omega
          clear hsz
          go_loopg [7, 8] 64 (fun gi v i wr' => ∃ e : Nat, gi = 64 - e ∧ e ≤ 64 ∧ i = .int .i64 (e : Int) ∧ OwnU wr' base v (mkl k (n k + e)) ∧ Blk sz aa k v ∧ Two wr' base h q cs aa n cc (fun j => mkl j (n j)) ∧ Gs wr' base gb gv k (fun j => mkl j (n j + 64)) ∧ Below base w wr' ∧ sz ≤ wr'.heap.size)
          case atStart => exact ⟨0, by omega, by omega, rfl, hown0, blk_self _ _ _ _ _, hT3, hG3, hB3, hsz0⟩
          case round =>
            clear hT3 hG3 hB3 hown0 hck hsz0
            obtain ⟨e, rfl, he, rfl, hov, hbv, hT4, hG4, hB4, hs4⟩ := hrel
            have hck := hT4.cell k hlt
            by_cases hel : e < 64
            · have helB : decide ((e : Int) < 64) = true := by rw [decide_eq_true_eq]; omega
              have hmk := kit_mb k (n k + e) (by omega) (by omega)
              rw [Int.natCast_add] at hmk
              have HMK := Lib.hid hmk
              clear hmk
              have hms := mkl_succ k (n k + e)
              have hml := mkl_length k (n k + e)
              have HMS := Lib.hid hms
              clear hms
              have hby := byt_new1 wr (mb k (n k + e)) (mb_lt _ _)
              have hbb := hT4.hb
              go_wp2_with (first
                | (go_at_call 39; refine (HMK.out _).mono ?_; rintro e w' ⟨rfl, rfl⟩)
                | (at_builtin; go_loud (refine appE rfl (.tmp 57) (.tmp 67) rfl base _ (mkl k (n k + e)) [mb k (n k + e)] rfl (hov.alloc _) ⟨wr.heap.size, 0, none⟩ 1 1 rfl hby (by decide) (by omega) (by rw [World.size_alloc]; omega) ?_; intro v' w5 h1 h2 h3 h4)))
              have hba : Below wr.heap.size wr (wr.alloc (.cells #[.int .u8 ((mb k (n k + e) : Nat) : Int)] 5)) := (Below.refl _ _).alloc (Nat.le_refl _) _
              have hT5 := (hT4.below hba).appended A HGA.out hhgb hqgb hlt (hbv.mono (by omega)) (hov.alloc _) (by rw [mkl_length]; omega) (mkl_take _ _ _).symm h3 h2
              have hG5 := (hG4.below hba).appended A HGA.out hlt hL3 hbv hszb h3
              have hB5 := (hB4.alloc hbb (.cells #[.int .u8 ((mb k (n k + e) : Nat) : Int)] 5)).grown h3 (by rw [World.size_alloc]; omega) (fun q hq => (World.ownsRow.lt hov.2 q hq).1)
              have hb5 := hbv.next (w := wr.alloc (.cells #[.int .u8 ((mb k (n k + e) : Nat) : Int)] 5)) (by rw [World.size_alloc]; omega) h4
              have hs5 : sz ≤ w5.heap.size := by have := h3.size; rw [World.size_alloc] at this; omega
              go_roundg (64 - (e + 1))
              case rel => exact ⟨e + 1, by omega, by omega, by go_num, by rw [← Nat.add_assoc, HMS.out]; exact h1, hb5, hT5, hG5, hB5, hs5⟩
              case measure => omega
            · obtain rfl : e = 64 := by omega
              have helB : decide (((64 : Nat) : Int) < 64) = false := by decide
              have hcg : wr.cell? ⟨gb, k, none⟩ = some (gv k) := by
                rw [hG4.row.cell k]
                rcases (show k = 0 ∨ k = 1 by omega) with h | h <;> rw [h] <;> rfl
              have hfg := hG4.row.frozen k
              obtain ⟨hG5, hL5⟩ := hG4.put HGA.out hlt hL3 (hbv.mono hszb) hov hs4
              obtain ⟨a7, c7, hv7, -⟩ := hov.slice
              rw [mkl_length] at hv7
              subst hv7
              have hT5 := hT4.far (i := k) (u := .slice a7 (n k + 64) c7) hhgb hqgb HGA.out
              have hB5 := hB4.setCell (p := ⟨gb, k, none⟩) hgbb (.slice a7 (n k + 64) c7)
              have hkI : (k : Int) < 2 := by omega
              clear hT4 hG4 hB4 hL3 hbv hov hck
              go_wp2_with fail
              go_roundg (2 - (k + 1))
              case rel => exact ⟨k + 1, _, by omega, by omega, by go_num, hT5, hG5, hL5, hB5⟩
              case measure => omega
        · obtain rfl : k = 2 := by omega
          have hltB : decide (((2 : Nat) : Int) < 2) = false := by decide
          obtain ⟨wb, hwb⟩ : ∃ wb, wb = wr := ⟨_, rfl⟩
          rw [← hwb] at hT3 hG3 hL3 hB3
          have hBb : Below wb.heap.size wb wr := by rw [hwb]; exact Below.refl _ _
          clear hwb hL3
          go_wp2_with fail
          go_loopg [9, 10] 2 (fun gk s _ wr' => ∃ k : Nat, gk = 2 - k ∧ k ≤ 2 ∧ s = .int .i64 (k : Int) ∧ Below wb.heap.size wb wr')
          case atStart => exact ⟨0, by omega, by omega, rfl, hBb⟩
          case round =>
            clear hBb
            obtain ⟨k, rfl, hk, rfl, hBb⟩ := hrel
            by_cases hlt : k < 2
            · have hnk := hn k hlt
              have hltB : decide ((k : Int) < 2) = true := by rw [decide_eq_true_eq]; omega
              have hkI : (k : Int) < 2 := by omega
              obtain ⟨a7, c7, hv7, hgg⟩ := (hG3.own k hlt hlt).slice
              rw [mkl_length] at hv7
              obtain ⟨g7, rfl⟩ := hgg (by intro e; have := congrArg List.length e; rw [mkl_length] at this; simp at this)
              have HVG := Lib.hid hv7
              have HCG : Hid (∀ wx, Below wb.heap.size wb wx → wx.cell? ⟨gb, k, none⟩ = some (.slice (some ⟨g7, 0, none⟩) (n k + 64) c7)) := Lib.hid fun wx hb => by
                have := (hG3.below hb).row.cell k
                rw [this, ← HVG.out]
                rcases (show k = 0 ∨ k = 1 by omega) with h | h <;> rw [h] <;> rfl
              have HCB : Hid (∀ wx, Below wb.heap.size wb wx → ∀ i, i < n k + 64 → wx.cell? ⟨g7, i, none⟩ = some (.int .u8 (mb k i : Int))) := Lib.hid fun wx hb i hi => by
                have h1 := (hG3.below hb).own k hlt hlt
                rw [HVG.out] at h1
                have := (own_at h1 (k := i) (by rw [mkl_length]; exact hi)).1
                rwa [mkl_at k _ i hi] at this
              have HCH : Hid (∀ wx, Below wb.heap.size wb wx → wx.cell? ⟨h, k, none⟩ = some (.slice (aa k) (n k) (cc k))) := Lib.hid fun wx hb => (hT3.below hb).cell k hlt
              have HCS : Hid (∀ wx, Below wb.heap.size wb wx → ∀ i, i < n k → ∃ g, aa k = some ⟨g, 0, none⟩ ∧ wx.cell? ⟨g, i, none⟩ = some (.int .u8 (mb k i : Int))) := Lib.hid fun wx hb i hi => by
                obtain ⟨g, hg⟩ := hT3.addr hlt (by omega)
                have h1 := (hT3.below hb).own k hlt
                rw [hg] at h1
                have := (own_at h1 (k := i) (by rw [mkl_length]; exact hi)).1
                rw [mkl_at k _ i hi] at this
                exact ⟨g, hg, this⟩
              clear hv7
              have hcg := HCG.out wr hBb
              go_wp2_with fail
              go_loopg [10] (n k + 64) (fun gi i wr' => ∃ e : Nat, gi = n k + 64 - e ∧ e ≤ n k + 64 ∧ i = .int .i64 (e : Int) ∧ Below wb.heap.size wb wr')
              case atStart => exact ⟨0, by omega, by omega, rfl, hBb⟩
              case round =>
                clear hBb hcg
                obtain ⟨e, rfl, he, rfl, hBb⟩ := hrel
                have hcg := HCG.out wr hBb
                have hbs := hBb.size
                by_cases hel : e < n k + 64
                · have helB : decide ((e : Int) < (n k : Int) + 64) = true := by rw [decide_eq_true_eq]; omega
                  have helI : (e : Int) < (n k : Int) + 64 := by omega
                  have hmk := kit_mbb k e (by omega) (by omega)
                  have HMK := Lib.hid hmk
                  clear hmk
                  have hcb := HCB.out wr hBb e hel
                  have hch := HCH.out wr hBb
                  have rcg := fun dd os => cell_regrown hcg dd os
                  have rcb := fun dd os => cell_regrown hcb dd os
                  have rch := fun dd os => cell_regrown hch dd os
                  by_cases hen : e < n k
                  · obtain ⟨g, hg, hcs⟩ := HCS.out wr hBb e hen
                    rw [hg] at rch
                    have rcs := fun dd os => cell_regrown hcs dd os
                    go_wp2_with fail
                    refine wp_region_quiet_below (by kernel_rfl) (by kernel_rfl) ?_
                    repeat (first | go_big_quiet_step (fail) | quiet_step (fail) | quiet_step (exact Calls.regrown_of (HMK.out _)))
                    refine wpQuiet_nil ?_
                    rintro _ ⟨p, rfl⟩
                    have hb9 := below_regrown wr p.d p.os
                    generalize grow (redrawn wr p.d) p.os = w9 at *
                    go_wp2_with fail
                    go_roundg (n k + 64 - (e + 1))
                    case rel => exact ⟨e + 1, by omega, by omega, by go_num, hBb.trans (hb9.mono hbs)⟩
                    case measure => omega
                  · go_wp2_with fail
                    refine wp_region_quiet_below (by kernel_rfl) (by kernel_rfl) ?_
                    repeat (first | go_big_quiet_step (fail) | quiet_step (fail) | quiet_step (exact Calls.regrown_of (HMK.out _)))
                    refine wpQuiet_nil ?_
                    rintro _ ⟨p, rfl⟩
                    have hb9 := below_regrown wr p.d p.os
                    generalize grow (redrawn wr p.d) p.os = w9 at *
                    go_wp2_with fail
                    go_roundg (n k + 64 - (e + 1))
                    case rel => exact ⟨e + 1, by omega, by omega, by go_num, hBb.trans (hb9.mono hbs)⟩
                    case measure => omega
                · have helB : decide ((e : Int) < (n k : Int) + 64) = false := by rw [decide_eq_false_iff_not]; omega
                  go_wp2_with fail
                  go_roundg (2 - (k + 1))
                  case rel => exact ⟨k + 1, by omega, by omega, by go_num, hBb⟩
                  case measure => omega
            · obtain rfl : k = 2 := by omega
              have hltB : decide (((2 : Nat) : Int) < 2) = false := by decide
              have hT6 := hT3.below hBb
              have hG6 : Gs wr base gb gv 0 (fun j => mkl j (n j) ++ mkl (j + 2) 64) := ⟨(hG3.below hBb).row, fun j h => by omega⟩
              have hB6 := hB3.trans (hBb.mono hT3.hb)
              clear hT3 hG3 hB3 hBb
              go_wp2_with fail
              go_loopg [11, 12, 13] 2 (fun gk s _ _ wr' => ∃ (k : Nat) (gv' : Nat → Value), gk = 2 - k ∧ k ≤ 2 ∧ s = .int .i64 (k : Int) ∧ Two wr' base h q cs aa n cc (fun j => mkl j (n j)) ∧ Gs wr' base gb gv' k (fun j => mkl j (n j) ++ mkl (j + 2) 64) ∧ Late gb wr'.heap.size aa gv' k ∧ Below base w wr')
              case atStart => exact ⟨0, gv, by omega, by omega, rfl, hT6, hG6, fun j h => by omega, hB6⟩
              case round =>
                clear hT6 hG6 hB6 gv
                obtain ⟨k, gv, rfl, hk, rfl, hT7, hG7, hL7, hB7⟩ := hrel
                by_cases hlt : k < 2
                · have hnk := hn k hlt
                  have hltB : decide ((k : Int) < 2) = true := by rw [decide_eq_true_eq]; omega
                  have hkI : (k : Int) < 2 := by omega
                  obtain ⟨i0, hi0, hz0, hz1, hz2⟩ := info_parts info_u8'
                  obtain ⟨wb, hwb⟩ : ∃ wb, wb = wr := ⟨_, rfl⟩
                  rw [← hwb] at hT7 hG7 hL7 hB7
                  go_wp2_with (at_make; go_loud (refine wpList_make_full _ rfl (.const (.int .i64 64)) (.const (.int .i64 64)) 25 rfl wr.heap.size 5 i0 (.int .u8 0) 1 Try.underlying25 hi0 hz0 hz1 .i64 .i64 64 64 64 rfl rfl rfl rfl (by rw [hz2]; decide) (by unfold maxLen; decide) (Nat.le_refl _) ?_; intro w2 ho2 hg2))
                  have hb2 : Below wr.heap.size wr w2 := (Below.refl _ _).grown hg2 (Nat.le_refl _) (fun _ h => by cases h)
                  have hM2 : OwnU w2 wr.heap.size (.slice (some ⟨wr.heap.size, 0, none⟩) 64 64) (List.replicate 64 0) := by
                    refine ⟨encU_len, ?_⟩
                    have e2 : (madeCells (Value.int .u8 0).cells (64 * 1)).toList = (List.replicate 64 0).flatMap encU := by kernel_rfl
                    rw [e2] at ho2
                    exact ho2
                  rw [← hwb] at hb2 hM2 ⊢
                  clear hwb hi0 hz0 hz1 hz2 ho2 hg2
                  go_loopg [13] 64 (fun gi i wr' => ∃ (e : Nat) (cm : List Nat), gi = 64 - e ∧ e ≤ 64 ∧ i = .int .i64 (e : Int) ∧ OwnU wr' wb.heap.size (.slice (some ⟨wb.heap.size, 0, none⟩) 64 64) cm ∧ cm.length = 64 ∧ (∀ j, j < e → cm.getD j 0 = mb (k + 2) j) ∧ Below wb.heap.size wb wr')
                  case atStart => exact ⟨0, _, by omega, by omega, rfl, hM2, by simp, fun j h => by omega, hb2⟩
                  case round =>
                    clear hM2 hb2
                    obtain ⟨e, cm, rfl, he, rfl, hM, hcl, hcm, hbm⟩ := hrel
                    by_cases hel : e < 64
                    · have helB : decide ((e : Int) < 64) = true := by rw [decide_eq_true_eq]; omega
                      have helI : (e : Int) < 64 := by omega
                      have hmk := kit_mb (k + 2) e (by omega) (by omega)
                      rw [show ((k + 2 : Nat) : Int) = (k : Int) + 2 by omega] at hmk
                      have HMK := Lib.hid hmk
                      clear hmk
                      obtain ⟨ce, fe⟩ := own_at hM (k := e) (by omega)
                      have hM3 := own_put hM (k := e) (by omega) (mb (k + 2) e)
                      have hb3 := hbm.setCell (p := ⟨wb.heap.size, e, none⟩) (Nat.le_refl _) (.int .u8 (mb (k + 2) e : Int))
                      have HC3 : Hid (∀ j, j < e + 1 → (cm.set e (mb (k + 2) e)).getD j 0 = mb (k + 2) j) := Lib.hid fun j hj => by
                        by_cases hje : j = e
                        · subst hje
                          rw [List.getD_eq_getElem?_getD, List.getElem?_set_self (by omega), Option.getD_some]
                        · rw [List.getD_eq_getElem?_getD, List.getElem?_set_ne (fun h => hje h.symm), ← List.getD_eq_getElem?_getD]
                          exact hcm j (by omega)
                      clear hcm hM hbm
                      go_wp2_with (go_at_call 39; refine (HMK.out _).mono ?_; rintro e w' ⟨rfl, rfl⟩)
                      go_roundg (64 - (e + 1))
                      case rel => exact ⟨e + 1, _, by omega, by omega, by go_num, hM3, by rw [List.length_set]; exact hcl, HC3.out, hb3⟩
                      case measure => omega
                    · obtain rfl : e = 64 := by omega
                      have helB : decide (((64 : Nat) : Int) < 64) = false := by decide
                      have hcme : cm = mkl (k + 2) 64 := by
                        have := mkl_of (k + 2) cm (fun i hi => hcm i (by omega))
                        rwa [hcl] at this
                      subst hcme
                      clear hcm hcl
                      obtain ⟨a6, c6, he6, -, -, -, -, hby⟩ := hM.byt (by rw [mkl_length]; omega) (mkl_byte _ _)
                      injection he6 with he6 h6a h6b; clear h6a h6b
                      subst he6
                      rw [mkl_length] at hby
                      have hsb := hbm.size
                      have hgb1 : gb + 1 ≤ wb.heap.size := by have := hG7.row.lt; omega
                      have hT8 := hT7.below hbm
                      have hG8 := hG7.below hbm
                      have hB8 := hB7.trans (hbm.mono hT7.hb)
                      have hck := hT8.cell k hlt
                      clear hT7 hG7 hB7 hbm
                      go_wp2_with (at_builtin; go_loud (refine appE rfl (.tmp 148) (.tmp 149) rfl base _ (mkl k (n k)) (mkl (k + 2) 64) rfl (hT8.own k hlt) ⟨wb.heap.size, 0, none⟩ 64 64 rfl hby (by decide) (by rw [mkl_length]; omega) hT8.hb ?_; intro v' w5 h1 h2 h3 h4; obtain ⟨a7, c7, hv7, -⟩ := h1.slice; rw [List.length_append, mkl_length, mkl_length] at hv7; subst hv7; have hG9 := hG8.appended A HGA.out hlt hL7 (blk_self _ _ _ _ _) hgb1 h3; have hcg : w5.cell? ⟨gb, k, none⟩ = some (gv k) := gs_cell hlt hG9.row; have hfg := hG9.row.frozen k))
                      have hT9 := hT8.appended A HGA.out hhgb hqgb hlt (blk_self _ _ _ _ _) (hT8.own k hlt) (by rw [mkl_length]; omega) (by rw [List.take_of_length_le (by rw [mkl_length]; omega)]) h3 h2
                      have hBl : Blk (gb + 1) aa k (.slice a7 (n k + 64) c7) := (blk_self (gb + 1) aa k (n k) (cc k)).next (by omega) h4
                      obtain ⟨hG5, hL5⟩ := hG9.put HGA.out hlt hL7 hBl h1 (by have := h3.size; omega)
                      have hB9 := hB8.grown h3 hT8.hb (fun q hq => (World.ownsRow.lt (hT8.own k hlt).2 q hq).1)
                      have hT5 := hT9.far (i := k) (u := .slice a7 (n k + 64) c7) hhgb hqgb HGA.out
                      have hB5 := hB9.setCell (p := ⟨gb, k, none⟩) hgbb (.slice a7 (n k + 64) c7)
                      clear hT8 hG8 hB8 hL7 hck hT9 hG9 hB9 hM hby h1 h2 h3 h4
                      go_wp2_with fail
                      go_roundg (2 - (k + 1))
                      case rel => exact ⟨k + 1, _, by omega, by omega, by go_num, hT5, hG5, hL5, hB5⟩
                      case measure => omega
                · obtain rfl : k = 2 := by omega
                  have hltB : decide (((2 : Nat) : Int) < 2) = false := by decide
                  obtain ⟨wb, hwb⟩ : ∃ wb, wb = wr := ⟨_, rfl⟩
                  rw [← hwb] at hT7 hG7 hL7 hB7
                  have hBb : Below wb.heap.size wb wr := by rw [hwb]; exact Below.refl _ _
                  clear hwb hL7
                  go_wp2_with fail
                  go_loopg [14, 15] 2 (fun gk s _ wr' => ∃ k : Nat, gk = 2 - k ∧ k ≤ 2 ∧ s = .int .i64 (k : Int) ∧ Below wb.heap.size wb wr')
                  case atStart => exact ⟨0, by omega, by omega, rfl, hBb⟩
                  case round =>
                    clear hBb
                    obtain ⟨k, rfl, hk, rfl, hBb⟩ := hrel
                    by_cases hlt : k < 2
                    · have hnk := hn k hlt
                      have hltB : decide ((k : Int) < 2) = true := by rw [decide_eq_true_eq]; omega
                      have hkI : (k : Int) < 2 := by omega
                      obtain ⟨a7, c7, hv7, hgg⟩ := (hG7.own k hlt hlt).slice
                      rw [List.length_append, mkl_length, mkl_length] at hv7
                      obtain ⟨g7, rfl⟩ := hgg (by intro e; have := congrArg List.length e; rw [List.length_append, mkl_length, mkl_length] at this; simp at this)
                      have HVG := Lib.hid hv7
                      have HCG : Hid (∀ wx, Below wb.heap.size wb wx → wx.cell? ⟨gb, k, none⟩ = some (.slice (some ⟨g7, 0, none⟩) (n k + 64) c7)) := Lib.hid fun wx hb => by
                        have := (hG7.below hb).row.cell k
                        rw [this, ← HVG.out]
                        rcases (show k = 0 ∨ k = 1 by omega) with h | h <;> rw [h] <;> rfl
                      have HCB : Hid (∀ wx, Below wb.heap.size wb wx → ∀ i, i < n k → wx.cell? ⟨g7, i, none⟩ = some (.int .u8 (mb k i : Int))) := Lib.hid fun wx hb i hi => by
                        have h1 := (hG7.below hb).own k hlt hlt
                        rw [HVG.out] at h1
                        have := (own_at h1 (k := i) (by rw [List.length_append, mkl_length, mkl_length]; omega)).1
                        rwa [List.getD_eq_getElem?_getD, List.getElem?_append_left (by rw [mkl_length]; exact hi), ← List.getD_eq_getElem?_getD, mkl_at k _ i hi] at this
                      have HCH : Hid (∀ wx, Below wb.heap.size wb wx → wx.cell? ⟨h, k, none⟩ = some (.slice (aa k) (n k) (cc k))) := Lib.hid fun wx hb => (hT7.below hb).cell k hlt
                      have HCS : Hid (∀ wx, Below wb.heap.size wb wx → ∀ i, i < n k → ∃ g, aa k = some ⟨g, 0, none⟩ ∧ wx.cell? ⟨g, i, none⟩ = some (.int .u8 (mb k i : Int))) := Lib.hid fun wx hb i hi => by
                        obtain ⟨g, hg⟩ := hT7.addr hlt (by omega)
                        have h1 := (hT7.below hb).own k hlt
                        rw [hg] at h1
                        have := (own_at h1 (k := i) (by rw [mkl_length]; exact hi)).1
                        rw [mkl_at k _ i hi] at this
                        exact ⟨g, hg, this⟩
                      clear hv7
                      have hch0 := HCH.out wr hBb
                      go_wp2_with fail
                      go_loopg [15] (n k) (fun gi i wr' => ∃ e : Nat, gi = n k - e ∧ e ≤ n k ∧ i = .int .i64 (e : Int) ∧ Below wb.heap.size wb wr')
                      case atStart => exact ⟨0, by omega, by omega, rfl, hBb⟩
                      case round =>
                        clear hBb hch0
                        obtain ⟨e, rfl, he, rfl, hBb⟩ := hrel
                        have hcg := HCG.out wr hBb
                        have hbs := hBb.size
                        have hch := HCH.out wr hBb
                        by_cases hen : e < n k
                        · have helB : decide ((e : Int) < (n k : Int)) = true := by rw [decide_eq_true_eq]; omega
                          have helI : (e : Int) < (n k : Int) + 64 := by omega
                          have hel : e < n k + 64 := by omega
                          have hmk := kit_mbb k e (by omega) (by omega)
                          have HMK := Lib.hid hmk
                          clear hmk
                          have hcb := HCB.out wr hBb e hen
                          have rcg := fun dd os => cell_regrown hcg dd os
                          have rcb := fun dd os => cell_regrown hcb dd os
                          have rch := fun dd os => cell_regrown hch dd os
                          obtain ⟨g, hg, hcs⟩ := HCS.out wr hBb e hen
                          rw [hg] at rch hch
                          have rcs := fun dd os => cell_regrown hcs dd os
                          go_wp2_with fail
                          refine wp_region_quiet_below (by kernel_rfl) (by kernel_rfl) ?_
                          repeat (first | go_big_quiet_step (fail) | quiet_step (fail) | quiet_step (exact Calls.regrown_of (HMK.out _)))
                          refine wpQuiet_nil ?_
                          rintro _ ⟨p, rfl⟩
                          have hb9 := below_regrown wr p.d p.os
                          generalize grow (redrawn wr p.d) p.os = w9 at *
                          go_wp2_with fail
                          go_roundg (n k - (e + 1))
                          case rel => exact ⟨e + 1, by omega, by omega, by go_num, hBb.trans (hb9.mono hbs)⟩
                          case measure => omega
                        · have helB : decide ((e : Int) < (n k : Int)) = false := by rw [decide_eq_false_iff_not]; omega
                          go_wp2_with fail
                          go_roundg (2 - (k + 1))
                          case rel => exact ⟨k + 1, by omega, by omega, by go_num, hBb⟩
                          case measure => omega
                    · obtain rfl : k = 2 := by omega
                      have hltB : decide (((2 : Nat) : Int) < 2) = false := by decide
                      have hB6 := hB7.trans (hBb.mono hT7.hb)
                      have hq6 := (hT7.below hBb).bag
                      clear hT7 hG7 hB7 hBb
                      go_wp2_with fail
                      go_ret
                      exact ⟨rfl, hB6, hq6⟩
end Go.Proofs.Ytdlnilebnobllaa

/- The contract of finessekit.ApartBytes on two slices of one's own over this seat's program (printed by wip/genapc.py). -/
namespace Go.Proofs.Ytdlnilebnobllaa
open Go.RowKit Go.Shelf Go.Sort

def bagC (v : Value) : Array Value := #[.slice none 0 0, .slice none 0 0, v, .slice none 0 0, .slice none 0 0, .slice none 0 0, .slice none 0 0, .slice none 0 0, .slice none 0 0, .slice none 0 0, .slice none 0 0, .slice none 0 0, .slice none 0 0, .slice none 0 0, .slice none 0 0, .slice none 0 0, .slice none 0 0]
theorem cell_new1 (w : World) (v : Value) (t : TypeId) : ∀ j u, [v][j]? = some u → (w.alloc (.cells #[v] t)).cell? ((⟨w.heap.size, 0, none⟩ : Addr).add j) = some u := by
  intro j u hu
  have hj : j = 0 := by
    rcases Nat.eq_zero_or_pos j with h | h
    · exact h
    · rw [List.getElem?_eq_none (by simp; omega)] at hu; cases hu
  subst hj
  have := (Row.new w t #[v]).cell 0
  simp at hu
  subst hu
  exact this
set_option maxRecDepth 100000 in
theorem put_bytes (q m vc base : Nat) (va : Option Addr) (xs : List Value) (a : Option Addr) (n c : Nat) (w : World) (hR : Row w q 108 (bagC (.slice va m vc))) (hv : w.ownsRow base 25 1 (.slice va m vc) m xs) (hm : m ≤ 100)
    (hqv : (Value.slice va m vc).ownBlock ≠ some q) (hqb : base ≤ q) :
    Calls Try.prog 47 #[.pointer (some ⟨q, 0, none⟩), .slice a n c] w fun e w' => e = .returned (.tuple #[]) ∧ ∃ g cap, Row w' q 108 (bagC (.slice (some ⟨g, 0, none⟩) (m + 1) cap)) ∧
      w'.ownsRow base 25 1 (.slice (some ⟨g, 0, none⟩) (m + 1) cap) (m + 1) (xs ++ [.slice a n c]) ∧ g ≠ q ∧ Below base w w' := by
  obtain ⟨i0, hi, hz0, hz1, hz2⟩ := info_parts info_Bytes
  have hc2 : w.cell? ⟨q, 2, none⟩ = some (.slice va m vc) := hR.cell 2
  have hql := hR.lt
  go_enter Try.func47, Try.ntmps47
  go_wp2_with (at_builtin; go_loud (refine wpList_append_lies _ rfl (.tmp 8) (.tmp 10) 71 rfl base 25 i0 (.slice none 0 0) 1 24 Try.underlying71 hi hz0 hz1 hz2 rfl (by decide) (.slice va m vc) m xs rfl (hv.alloc _) ⟨w.heap.size, 0, none⟩ 1 1 [.slice a n c] rfl rfl (cell_new1 _ _ _) (by simp [Value.oneCell']) (by decide) (by unfold maxLen; omega) (by omega) (by rw [World.size_alloc]; omega) _ rfl ?_; intro g cap w5 h1 h2 h3 h4; have hR5 : Row w5 q 108 (bagC (.slice va m vc)) := (hR.alloc _).same (h2.block q (by rw [World.size_alloc]; omega) (fun e => hqv e.symm)); have hc5 : w5.cell? ⟨q, 2, none⟩ = some (.slice va m vc) := hR5.cell 2; have hf5 := hR5.frozen 2))
  go_end0
  have hgq : g ≠ q := by
    rcases h3 with h3 | h3
    · rw [h3] at hqv; intro e; exact hqv (by rw [e])
    · rw [World.size_alloc] at h3; omega
  refine ⟨rfl, g, cap, hR5.set 2 _, World.ownsRow.kept (row := some q) h1 (grownBy_setCellU _ _ _) (.inr (by intro e; simp only [Value.ownBlock, Option.some.injEq] at e; exact hgq e)), hgq, ?_⟩
  exact (((Below.refl _ _).alloc (Nat.le_trans hqb (Nat.le_of_lt hql)) _).grown h2 (by rw [World.size_alloc]; omega) (fun k hk => (hv.lt k hk).1)).setCell (p := ⟨q, 2, none⟩) hqb _
set_option maxHeartbeats 2000000 in
set_option maxRecDepth 100000 in
theorem apart_two (q base h hc : Nat) (aa : Nat → Option Addr) (n cc : Nat → Nat) (c : Nat → List Nat) (w : World) (H : Two w base h q (bagC (.slice (some ⟨h, 0, none⟩) 2 hc)) aa n cc c) (A : Apt h q aa) (hn : ∀ j, j < 2 → n j ≤ 100) :
    Calls Try.prog 48 #[.pointer (some ⟨q, 0, none⟩)] w fun e w' => e = .returned (.bool true) ∧ Below base w w' := by
  have c0 : w.cell? ⟨q, 0, none⟩ = some (.slice none 0 0) := H.bag.cell 0
  go_enter Try.func48, Try.ntmps48
  go_wp2_with (first
    | (go_at_call 56; refine (flat_Ints _).mono ?_; rintro e x0 ⟨rfl, hb0⟩; have H0 := H.below hb0; have hB0 := hb0.mono H.hb; have c1 : x0.cell? ⟨q, 1, none⟩ = some (.slice none 0 0) := H0.bag.cell 1)
    | (go_at_call 57; refine (flat_Texts _).mono ?_; rintro e x1 ⟨rfl, hb1⟩; have H1 := H0.below hb1; have hB1 := hB0.trans (hb1.mono H0.hb); have c2 : x1.cell? ⟨q, 2, none⟩ = some (.slice (some ⟨h, 0, none⟩) 2 hc) := H1.bag.cell 2)
    | (go_at_call 58; refine (flat_two h hc base q _ aa n cc c _ H1 A hn).mono ?_; rintro e x2 ⟨rfl, hB2, R2⟩; have hB3 := hB1.trans hB2; have z2 := Nat.le_trans H1.hb hB2.size; have c3 : x2.cell? ⟨q, 3, none⟩ = some (.slice none 0 0) := R2.cell 3)
    | (go_at_call 59; refine (flat_Masks _).mono ?_; rintro e x3 ⟨rfl, hb3⟩; have hC3 := hB3.trans (hb3.mono z2); have R3 := R2.below R2.lt hb3; have z3 := Nat.le_trans z2 hb3.size; have c4 : x3.cell? ⟨q, 4, none⟩ = some (.slice none 0 0) := R3.cell 4)
    | (go_at_call 60; refine (flat_Deals _).mono ?_; rintro e x4 ⟨rfl, hb4⟩; have hC4 := hC3.trans (hb4.mono z3); have R4 := R3.below R3.lt hb4; have z4 := Nat.le_trans z3 hb4.size; have c5 : x4.cell? ⟨q, 5, none⟩ = some (.slice none 0 0) := R4.cell 5)
    | (go_at_call 61; refine (flat_Fracs _).mono ?_; rintro e x5 ⟨rfl, hb5⟩; have hC5 := hC4.trans (hb5.mono z4); have R5 := R4.below R4.lt hb5; have z5 := Nat.le_trans z4 hb5.size; have c6 : x5.cell? ⟨q, 6, none⟩ = some (.slice none 0 0) := R5.cell 6)
    | (go_at_call 62; refine (flat_Contracts _).mono ?_; rintro e x6 ⟨rfl, hb6⟩; have hC6 := hC5.trans (hb6.mono z5); have R6 := R5.below R5.lt hb6; have z6 := Nat.le_trans z5 hb6.size; have c7 : x6.cell? ⟨q, 7, none⟩ = some (.slice none 0 0) := R6.cell 7)
    | (go_at_call 63; refine (flat_Outcomes _).mono ?_; rintro e x7 ⟨rfl, hb7⟩; have hC7 := hC6.trans (hb7.mono z6); have R7 := R6.below R6.lt hb7; have z7 := Nat.le_trans z6 hb7.size; have c8 : x7.cell? ⟨q, 8, none⟩ = some (.slice none 0 0) := R7.cell 8)
    | (go_at_call 64; refine (flat_Entries _).mono ?_; rintro e x8 ⟨rfl, hb8⟩; have hC8 := hC7.trans (hb8.mono z7); have R8 := R7.below R7.lt hb8; have z8 := Nat.le_trans z7 hb8.size; have c9 : x8.cell? ⟨q, 9, none⟩ = some (.slice none 0 0) := R8.cell 9)
    | (go_at_call 65; refine (flat_Rows _).mono ?_; rintro e x9 ⟨rfl, hb9⟩; have hC9 := hC8.trans (hb9.mono z8); have R9 := R8.below R8.lt hb9; have z9 := Nat.le_trans z8 hb9.size; have c10 : x9.cell? ⟨q, 10, none⟩ = some (.slice none 0 0) := R9.cell 10)
    | (go_at_call 66; refine (flat_Movements _).mono ?_; rintro e x10 ⟨rfl, hb10⟩; have hC10 := hC9.trans (hb10.mono z9); have R10 := R9.below R9.lt hb10; have z10 := Nat.le_trans z9 hb10.size; have c11 : x10.cell? ⟨q, 11, none⟩ = some (.slice none 0 0) := R10.cell 11)
    | (go_at_call 67; refine (flat_Sessions _).mono ?_; rintro e x11 ⟨rfl, hb11⟩; have hC11 := hC10.trans (hb11.mono z10); have R11 := R10.below R10.lt hb11; have z11 := Nat.le_trans z10 hb11.size; have c12 : x11.cell? ⟨q, 12, none⟩ = some (.slice none 0 0) := R11.cell 12)
    | (go_at_call 68; refine (flat_IntLists _).mono ?_; rintro e x12 ⟨rfl, hb12⟩; have hC12 := hC11.trans (hb12.mono z11); have R12 := R11.below R11.lt hb12; have z12 := Nat.le_trans z11 hb12.size; have c13 : x12.cell? ⟨q, 13, none⟩ = some (.slice none 0 0) := R12.cell 13)
    | (go_at_call 69; refine (flat_TextLists _).mono ?_; rintro e x13 ⟨rfl, hb13⟩; have hC13 := hC12.trans (hb13.mono z12); have R13 := R12.below R12.lt hb13; have z13 := Nat.le_trans z12 hb13.size; have c14 : x13.cell? ⟨q, 14, none⟩ = some (.slice none 0 0) := R13.cell 14)
    | (go_at_call 70; refine (flat_FracLists _).mono ?_; rintro e x14 ⟨rfl, hb14⟩; have hC14 := hC13.trans (hb14.mono z13); have R14 := R13.below R13.lt hb14; have z14 := Nat.le_trans z13 hb14.size; have c15 : x14.cell? ⟨q, 15, none⟩ = some (.slice none 0 0) := R14.cell 15)
    | (go_at_call 71; refine (flat_RowLists _).mono ?_; rintro e x15 ⟨rfl, hb15⟩; have hC15 := hC14.trans (hb15.mono z14); have R15 := R14.below R14.lt hb15; have z15 := Nat.le_trans z14 hb15.size; have c16 : x15.cell? ⟨q, 16, none⟩ = some (.slice none 0 0) := R15.cell 16)
    | (go_at_call 72; refine (flat_EntryLists _).mono ?_; rintro e x16 ⟨rfl, hb16⟩; have hC16 := hC15.trans (hb16.mono z15); have R16 := R15.below R15.lt hb16; have z16 := Nat.le_trans z15 hb16.size))
  go_ret
  exact ⟨rfl, hC16⟩
theorem row_two {w : World} {base : Nat} {e : TypeId} {g cap : Nat} {x y : Value} (h : w.ownsRow base e 1 (.slice (some ⟨g, 0, none⟩) 2 cap) 2 [x, y]) : w.cell? ⟨g, 0, none⟩ = some x ∧ w.cell? ⟨g, 1, none⟩ = some y :=
  ⟨(h.cellAt 0 (by decide)).trans rfl, (h.cellAt 1 (by decide)).trans rfl⟩
set_option maxRecDepth 100000 in
theorem apart_bytes (hl cl base : Nat) (a0 a1 : Option Addr) (n0 c0 n1 c1 : Nat) (l0 l1 : List Nat) (w : World) (hR : Row w hl 25 #[.slice a0 n0 c0, .slice a1 n1 c1]) (h0 : OwnU w base (.slice a0 n0 c0) l0) (h1 : OwnU w base (.slice a1 n1 c1) l1)
    (hn0 : n0 ≤ 100) (hn1 : n1 ≤ 100) (hne : ∀ a b, a0 = some a → a1 = some b → a.block ≠ b.block) (hb : base ≤ w.heap.size) :
    Calls Try.prog 32 #[.slice (some ⟨hl, 0, none⟩) 2 cl] w fun e w' => e = .returned (.bool true) ∧ Below base w w' := by
  have hS : Below w.heap.size w (w.alloc (.cells #[.slice none 0 0, .slice none 0 0, .slice none 0 0, .slice none 0 0, .slice none 0 0, .slice none 0 0, .slice none 0 0, .slice none 0 0, .slice none 0 0, .slice none 0 0, .slice none 0 0, .slice none 0 0, .slice none 0 0, .slice none 0 0, .slice none 0 0, .slice none 0 0, .slice none 0 0] 108)) := (Below.refl _ _).alloc (Nat.le_refl _) _
  have hQ : Row (w.alloc (.cells #[.slice none 0 0, .slice none 0 0, .slice none 0 0, .slice none 0 0, .slice none 0 0, .slice none 0 0, .slice none 0 0, .slice none 0 0, .slice none 0 0, .slice none 0 0, .slice none 0 0, .slice none 0 0, .slice none 0 0, .slice none 0 0, .slice none 0 0, .slice none 0 0, .slice none 0 0] 108)) w.heap.size 108 (bagC (.slice none 0 0)) := Row.new w 108 #[.slice none 0 0, .slice none 0 0, .slice none 0 0, .slice none 0 0, .slice none 0 0, .slice none 0 0, .slice none 0 0, .slice none 0 0, .slice none 0 0, .slice none 0 0, .slice none 0 0, .slice none 0 0, .slice none 0 0, .slice none 0 0, .slice none 0 0, .slice none 0 0, .slice none 0 0]
  have hll := hR.lt
  have d0 : ∀ wx, Below w.heap.size w wx → wx.cell? ⟨hl, 0, none⟩ = some (.slice a0 n0 c0) := fun wx hb => (hR.below hll hb).cell 0
  have d1 : ∀ wx, Below w.heap.size w wx → wx.cell? ⟨hl, 1, none⟩ = some (.slice a1 n1 c1) := fun wx hb => (hR.below hll hb).cell 1
  have HD0 := Lib.hid d0
  have HD1 := Lib.hid d1
  have e0 := d0 _ hS
  clear d0 d1
  go_enter Try.func32, Try.ntmps32
  go_wp2_with fail
  generalize hU : w.alloc (.cells #[.slice none 0 0, .slice none 0 0, .slice none 0 0, .slice none 0 0, .slice none 0 0, .slice none 0 0, .slice none 0 0, .slice none 0 0, .slice none 0 0, .slice none 0 0, .slice none 0 0, .slice none 0 0, .slice none 0 0, .slice none 0 0, .slice none 0 0, .slice none 0 0, .slice none 0 0] 108) = w0 at *
  clear hU
  have hql : w.heap.size < w0.heap.size := hQ.lt
  refine wp_loop_rounds 3 ?_
  rw [rounds_succ]
  go_wp2_with (go_at_call 47; refine (put_bytes w.heap.size 0 0 w.heap.size none [] a0 n0 c0 _ hQ (World.ownsRow_nil _ _ _ _) (by decide) (by intro e; cases e) (Nat.le_refl _)).mono ?_; rintro e w1 ⟨rfl, g1, cap1, hQ1, hO1, hgq1, hB1⟩)
  have hS1 := hS.trans hB1
  have e1 := HD1.out _ hS1
  rw [rounds_succ]
  go_wp2_with (go_at_call 47; refine (put_bytes w.heap.size 1 cap1 w.heap.size _ _ a1 n1 c1 _ hQ1 hO1 (by decide) (by intro e; simp only [Value.ownBlock, Option.some.injEq] at e; exact hgq1 e) (Nat.le_refl _)).mono ?_; rintro e w2 ⟨rfl, g2, cap2, hQ2, hO2, hgq2, hB2⟩)
  have hS2 := hS1.trans hB2
  rw [rounds_succ]
  obtain ⟨hc0, hc1⟩ := row_two hO2
  have hg2 := World.ownsRow.lt hO2 g2 rfl
  have hlt0 := fun k hk => World.ownsRow.lt h0.2 k hk
  have hlt1 := fun k hk => World.ownsRow.lt h1.2 k hk
  have T : Two w2 base g2 w.heap.size (bagC (.slice (some ⟨g2, 0, none⟩) 2 cap2)) (fun j => if j = 0 then a0 else a1) (fun j => if j = 0 then n0 else n1) (fun j => if j = 0 then c0 else c1) (fun j => if j = 0 then l0 else l1) := by
    refine ⟨fun j hj => ?_, fun j hj => ?_, hg2.2, Nat.le_trans hb hS2.size, hQ2⟩
    · rcases (show j = 0 ∨ j = 1 by omega) with rfl | rfl
      · exact hc0
      · exact hc1
    · rcases (show j = 0 ∨ j = 1 by omega) with rfl | rfl
      · exact Owns.below h0 hS2
      · exact Owns.below h1 hS2
  have A : Apt g2 w.heap.size (fun j => if j = 0 then a0 else a1) := by
    have hz : ∀ j a, j < 2 → (if j = 0 then a0 else a1) = some a → a.block < w.heap.size := by
      intro j a hj ha
      rcases (show j = 0 ∨ j = 1 by omega) with rfl | rfl
      · exact (hlt0 a.block (by have ha : a0 = some a := ha; rw [ha]; rfl)).2
      · exact (hlt1 a.block (by have ha : a1 = some a := ha; rw [ha]; rfl)).2
    refine ⟨fun a b ha hb => hne a b ha hb, fun j a hj ha => ?_, fun j a hj ha => ?_⟩
    · have := hz j a hj ha; omega
    · have := hz j a hj ha; omega
  have HAP := Lib.hid (apart_two w.heap.size base g2 cap2 _ _ _ _ w2 T A (fun j hj => by rcases (show j = 0 ∨ j = 1 by omega) with rfl | rfl; exact hn0; exact hn1))
  clear T A hc0 hc1 hO2 hQ2 hO1 hQ1
  go_wp2_with (go_at_call 48; refine HAP.out.mono ?_; rintro e w3 ⟨rfl, hB3⟩)
  go_ret
  exact ⟨rfl, (hS2.mono hb).trans hB3⟩
end Go.Proofs.Ytdlnilebnobllaa
