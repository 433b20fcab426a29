/- The methods of a play that is none: nil, or the zero one. -/
import Derived.Test.YtginbellakkliaaDoorMRro
namespace Go.Proofs.YtginbellakkliaaDoor
open Go.RowKit Go.Shelf Go.Sort Go.Maps Go.WideMaps
attribute [local go_sem] Oper.semAt_some

abbrev zeroPl : Array Value := #[.int .u64 0, .int .u64 0, .int .u64 0, .int .u64 0, .int .u8 0, .int .u8 0, .int .u8 0, .int .u8 0, .int .u8 0, .int .u8 0, .int .u8 0, .int .u8 0, .int .u8 0, .int .u8 0, .slice none 0 0, .slice none 0 0]
/-- a pointer to no play that New made -/
def NoP (w : World) (pv : Value) : Prop := pv = .pointer none ∨ ∃ B, pv = .pointer (some ⟨B, 0, none⟩) ∧ Row w B 85 zeroPl
theorem NoP.below {w w' : World} {pv : Value} (h : NoP w pv) (hb : Below w.heap.size w w') : NoP w' pv := by
  rcases h with h | ⟨B, h, h1⟩
  · exact .inl h
  · exact .inr ⟨B, h, h1.below h1.lt hb⟩
theorem no_made {w : World} {pv : Value} (h : NoP w pv) : Calls Tryd.prog 41 #[pv] w fun e w' => e = .returned (.bool false) ∧ w = w' := by
  rcases h with rfl | ⟨B, rfl, h⟩
  · go_enter Tryd.func41, Tryd.ntmps41
    go_wp2_with fail
    go_ret
    exact ⟨rfl, rfl⟩
  · have c10 : w.cell? ⟨B, 10, none⟩ = some (.int .u8 0) := h.cell 10
    have hl := h.lt
    clear h
    go_enter Tryd.func41, Tryd.ntmps41
    go_wp2_with fail
    go_ret
    exact ⟨rfl, rfl⟩
theorem no_Turn {w : World} {pv : Value} (h : NoP w pv) : Calls Tryd.prog 15 #[pv] w fun e w' => e = .returned (.tuple #[.int .u8 0, .int .i64 1]) ∧ w = w' := by
  have HM := Lib.hid (no_made h)
  clear h
  go_enter Tryd.func15, Tryd.ntmps15
  go_wp2_with (go_at_call 41; refine HM.out.mono ?_; rintro e w' ⟨rfl, rfl⟩)
  go_ret2
  exact ⟨rfl, rfl⟩
theorem no_Chooser {w : World} {pv : Value} (h : NoP w pv) : Calls Tryd.prog 28 #[pv] w fun e w' => e = .returned (.tuple #[.int .u8 0, .int .i64 1]) ∧ w = w' := by
  have HM := Lib.hid (no_Turn h)
  clear h
  go_enter Tryd.func28, Tryd.ntmps28
  go_wp2_with (go_at_call 15; refine HM.out.mono ?_; rintro e w' ⟨rfl, rfl⟩)
  go_ret2
  exact ⟨rfl, rfl⟩
theorem no_Result {w : World} {pv : Value} (h : NoP w pv) : Calls Tryd.prog 19 #[pv] w fun e w' => e = .returned (.tuple #[.int .i64 0, .int .i64 1]) ∧ w = w' := by
  have HM := Lib.hid (no_made h)
  clear h
  go_enter Tryd.func19, Tryd.ntmps19
  go_wp2_with (go_at_call 41; refine HM.out.mono ?_; rintro e w' ⟨rfl, rfl⟩)
  go_ret2
  exact ⟨rfl, rfl⟩
theorem no_Trick {w : World} {pv : Value} (h : NoP w pv) : Calls Tryd.prog 24 #[pv] w fun e w' => e = .returned (.tuple #[.int .u8 0, .slice none 0 0]) ∧ w = w' := by
  have HM := Lib.hid (no_made h)
  clear h
  go_enter Tryd.func24, Tryd.ntmps24
  go_wp2_with (go_at_call 41; refine HM.out.mono ?_; rintro e w' ⟨rfl, rfl⟩)
  go_ret2
  exact ⟨rfl, rfl⟩
theorem no_Last {w : World} {pv : Value} (h : NoP w pv) : Calls Tryd.prog 31 #[pv] w fun e w' => e = .returned (.tuple #[.int .u8 0, .slice none 0 0, .bool false]) ∧ w = w' := by
  have HM := Lib.hid (no_made h)
  clear h
  go_enter Tryd.func31, Tryd.ntmps31
  go_wp2_with (go_at_call 41; refine HM.out.mono ?_; rintro e w' ⟨rfl, rfl⟩)
  refine bodyPost_ret (results_t3 rfl _ _ _) rfl ?_
  exact ⟨rfl, rfl⟩
theorem no_Tricks {w : World} {pv : Value} (h : NoP w pv) : Calls Tryd.prog 33 #[pv] w fun e w' => e = .returned (.tuple #[.int .i64 0, .int .i64 0]) ∧ w = w' := by
  have HM := Lib.hid (no_made h)
  clear h
  go_enter Tryd.func33, Tryd.ntmps33
  go_wp2_with (go_at_call 41; refine HM.out.mono ?_; rintro e w' ⟨rfl, rfl⟩)
  go_ret2
  exact ⟨rfl, rfl⟩
theorem no_Legal {w : World} {pv : Value} (h : NoP w pv) : Calls Tryd.prog 14 #[pv] w fun e w' => e = .returned (.int .u64 0) ∧ w = w' := by
  have HM := Lib.hid (no_made h)
  clear h
  go_enter Tryd.func14, Tryd.ntmps14
  go_wp2_with (go_at_call 41; refine HM.out.mono ?_; rintro e w' ⟨rfl, rfl⟩)
  go_ret
  exact ⟨rfl, rfl⟩
theorem no_Hand {w : World} {pv : Value} (s : Int) (h : NoP w pv) : Calls Tryd.prog 22 #[pv, .int .u8 s] w fun e w' => e = .returned (.int .u64 0) ∧ w = w' := by
  have HM := Lib.hid (no_made h)
  clear h
  go_enter Tryd.func22, Tryd.ntmps22
  go_wp2_with (go_at_call 41; refine HM.out.mono ?_; rintro e w' ⟨rfl, rfl⟩)
  go_ret
  exact ⟨rfl, rfl⟩
theorem no_Cards {w : World} {pv : Value} (h : NoP w pv) : Calls Tryd.prog 20 #[pv] w fun e w' => e = .returned (.slice none 0 0) ∧ w = w' := by
  have HM := Lib.hid (no_made h)
  clear h
  go_enter Tryd.func20, Tryd.ntmps20
  go_wp2_with (go_at_call 41; refine HM.out.mono ?_; rintro e w' ⟨rfl, rfl⟩)
  go_ret
  exact ⟨rfl, rfl⟩
theorem no_Do {w : World} {pv : Value} (c : Int) (h : NoP w pv) : Calls Tryd.prog 18 #[pv, .int .u8 c] w fun e w' => e = .returned (.int .i64 1) ∧ w = w' := by
  have HM := Lib.hid (no_made h)
  clear h
  go_enter Tryd.func18, Tryd.ntmps18
  go_wp2_with (go_at_call 41; refine HM.out.mono ?_; rintro e w' ⟨rfl, rfl⟩)
  go_ret
  exact ⟨rfl, rfl⟩
theorem no_Undo {w : World} {pv : Value} (h : NoP w pv) : Calls Tryd.prog 25 #[pv] w fun e w' => e = .returned (.int .i64 1) ∧ w = w' := by
  have HM := Lib.hid (no_made h)
  clear h
  go_enter Tryd.func25, Tryd.ntmps25
  go_wp2_with (go_at_call 41; refine HM.out.mono ?_; rintro e w' ⟨rfl, rfl⟩)
  go_ret
  exact ⟨rfl, rfl⟩
theorem no_Redo {w : World} {pv : Value} (h : NoP w pv) : Calls Tryd.prog 26 #[pv] w fun e w' => e = .returned (.int .i64 1) ∧ w = w' := by
  have HM := Lib.hid (no_made h)
  clear h
  go_enter Tryd.func26, Tryd.ntmps26
  go_wp2_with (go_at_call 41; refine HM.out.mono ?_; rintro e w' ⟨rfl, rfl⟩)
  go_ret
  exact ⟨rfl, rfl⟩
set_option maxRecDepth 10000 in
theorem no_Seen {w : World} {pv : Value} (s : Int) (h : NoP w pv) :
    Calls Tryd.prog 21 #[pv, .int .u8 s] w fun e w' => e = .returned (.tuple #[.agg #[.int .u64 0, .int .u64 0, .int .u64 0, .int .u64 0], .int .u64 0]) ∧ Below w.heap.size w w' := by
  have hs0 : (w.alloc (.cells #[.int .u64 0, .int .u64 0, .int .u64 0, .int .u64 0] 26)).heap.size = w.heap.size + 1 := by simp
  obtain ⟨QA, hQA⟩ : ∃ A : Array Value, #[.int .u64 0, .int .u64 0, .int .u64 0, .int .u64 0] = A := ⟨_, rfl⟩
  have HQZ : Hid (QA.size = 4 ∧ QA.all (·.oneCell') = true) := Lib.hid (by rw [← hQA]; exact ⟨rfl, by simp [Value.oneCell']⟩)
  have h1 := (Row.new w 26 QA).alloc (.cells QA 26)
  have h2 := Row.new (w.alloc (.cells QA 26)) 26 QA
  have h3 := ((Below.refl w.heap.size w).alloc (Nat.le_refl _) (.cells QA 26)).alloc (by simp) (.cells QA 26)
  rw [← hQA, hs0, hQA] at h2
  have HM := Lib.hid (no_made (h.below ((((Below.refl w.heap.size w).alloc (Nat.le_refl _) (.cells QA 26)).alloc (by simp) (.cells QA 26)))))
  have H1 := Lib.hid h1
  have H2 := Lib.hid h2
  have H3 := Lib.hid h3
  clear h1 h2 h3 h hs0
  rw [hQA]
  go_enter Tryd.func21, Tryd.ntmps21
  go_upto_region 2 with fail
  show Code.wp _ _ _ _ ((w.alloc (.cells QA 26)).alloc (.cells QA 26))
  generalize (w.alloc (.cells QA 26)).alloc (.cells QA 26) = w1 at *
  obtain ⟨b, hb0⟩ : ∃ b, w.heap.size = b := ⟨_, rfl⟩
  obtain ⟨b6, hb6⟩ : ∃ b, w.heap.size + 1 = b := ⟨_, rfl⟩
  have HBS : Hid (w.heap.size = b ∧ b6 = b + 1) := Lib.hid ⟨hb0, by omega⟩
  rw [hb6] at H2 ⊢
  rw [hb0] at H1 ⊢
  clear hb0 hb6 hQA
  go_wp2_with fail
  refine HM.out.mono ?_
  rintro e w' ⟨rfl, rfl⟩
  go_wp2_with (first
    | refine wpList_load_row rfl 26 (.tmp 6) rfl b6 rfl 26 QA (0, 0) _ H2.out Tryd.underlying26 rfl (by rw [HQZ.out.1]; exact size_dealR) ?_
    | refine wpList_store_row rfl 26 (.tmp 4) (.tmp 17) rfl b QA rfl rfl 26 _ H1.out (by rw [HQZ.out.1]; exact size_dealR) rfl HQZ.out.2 ?_)
  refine bodyPost_ret (v := .tuple #[.agg QA, .int .u64 0]) (results_cellt Tryd.results21 _ _ b _ QA (0, 0) _ rfl (setRow_heap _ _ _ _ _ _ H1.out) Tryd.underlying26 rfl (by rw [HQZ.out.1]; exact size_dealR)) rfl ⟨rfl, below_setRow H3.out (by have := HBS.out; omega) _⟩
end Go.Proofs.YtginbellakkliaaDoor
