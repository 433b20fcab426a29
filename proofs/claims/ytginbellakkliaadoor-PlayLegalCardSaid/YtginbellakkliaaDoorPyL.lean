/- The contract of play.New over this seat's program. -/
import Derived.Test.YtginbellakkliaaDoorPyK
namespace Go.Proofs.YtginbellakkliaaDoor
open Go.RowKit Go.Shelf Go.Sort
attribute [local go_sem] Oper.semAt_some

/-- the play that New makes -/
def newP (d : Nat → Nat) (lv dn rk dc : Nat) : Ply := ⟨⟨d, (dc + 1) % 4, 0, fun _ => 0⟩, lv, dn, rk, dc, [], []⟩
/-- the error of New -/
def newE (d : Nat → Nat) (lv dn rk dc : Nat) : Nat := if (leadV lv dn rk dc).2 = 0 then (if dealOk d then 0 else 120) else (leadV lv dn rk dc).2
theorem leadV_ok {lv dn rk dc : Nat} (h : (leadV lv dn rk dc).2 = 0) : leadV lv dn rk dc = ((dc + 1) % 4, 0) ∧ 1 ≤ lv ∧ lv ≤ 7 ∧ dn ≤ 4 ∧ rk ≤ 2 ∧ dc ≤ 3 := by
  unfold leadV at *
  split at h
  · cases h
  · rename_i h0
    split at h
    · rename_i h1
      rw [if_neg h0, if_pos h1]
      exact ⟨rfl, by omega, h1.1, h1.2.1, h1.2.2.1, h1.2.2.2⟩
    · cases h
/-- the two boxes of New -/
abbrev newW (d : Nat → Nat) (lv dn rk dc : Nat) (w : World) : World := (w.alloc (.cells #[.int .u64 (d 0 : Int), .int .u64 (d 1 : Int), .int .u64 (d 2 : Int), .int .u64 (d 3 : Int)] 26)).alloc (.cells #[.int .u8 (lv : Int), .int .u8 (dn : Int), .int .u8 (rk : Int), .int .u8 (dc : Int)] 28)
theorem newW_below (d : Nat → Nat) (lv dn rk dc : Nat) (w : World) : Below w.heap.size w (newW d lv dn rk dc w) := ((Below.refl _ _).alloc (Nat.le_refl _) _).alloc (by simp) _
theorem newW_rows (d : Nat → Nat) (lv dn rk dc : Nat) (w : World) : Row (newW d lv dn rk dc w) w.heap.size 26 #[.int .u64 (d 0 : Int), .int .u64 (d 1 : Int), .int .u64 (d 2 : Int), .int .u64 (d 3 : Int)] ∧
    Row (newW d lv dn rk dc w) (w.heap.size + 1) 28 #[.int .u8 (lv : Int), .int .u8 (dn : Int), .int .u8 (rk : Int), .int .u8 (dc : Int)] := by
  refine ⟨(Row.new w _ _).alloc _, ?_⟩
  have := Row.new (w.alloc (.cells #[.int .u64 (d 0 : Int), .int .u64 (d 1 : Int), .int .u64 (d 2 : Int), .int .u64 (d 3 : Int)] 26)) 28 #[.int .u8 (lv : Int), .int .u8 (dn : Int), .int .u8 (rk : Int), .int .u8 (dc : Int)]
  rwa [World.size_alloc] at this
theorem play_new_no (d : Nat → Nat) (lv dn rk dc : Nat) (hd : ∀ i, i < 4 → W64 (d i)) (hne : newE d lv dn rk dc ≠ 0) (w : World) :
    Calls Tryd.prog 13 #[.agg #[.int .u64 (d 0 : Int), .int .u64 (d 1 : Int), .int .u64 (d 2 : Int), .int .u64 (d 3 : Int)], .agg #[.int .u8 (lv : Int), .int .u8 (dn : Int), .int .u8 (rk : Int), .int .u8 (dc : Int)]] w fun e w' =>
      e = .returned (.tuple #[.pointer none, .int .i64 (newE d lv dn rk dc : Int)]) ∧ Below w.heap.size w w' := by
  have hb0 : ∀ o o', Below w.heap.size w ((w.alloc o).alloc o') := fun o o' => ((Below.refl _ _).alloc (Nat.le_refl _) o).alloc (by simp) o'
  have HL := Lib.hid (auction_leader lv dn rk dc)
  obtain ⟨hR0, hR1⟩ := newW_rows d lv dn rk dc w
  have hz : (newW d lv dn rk dc w).heap.size = w.heap.size + 2 := by simp
  have HP := Lib.hid (play_playable d hd)
  by_cases h1 : (leadV lv dn rk dc).2 = 0
  · unfold newE at *
    rw [if_pos h1] at *
    have h2 : dealOk d = false := by
      cases h : dealOk d
      · rfl
      · rw [h] at hne; exact absurd rfl hne
    rw [h2] at HP ⊢
    rw [(leadV_ok h1).1] at HL
    obtain ⟨ld, hld⟩ : ∃ ld, ld = (dc + 1) % 4 := ⟨_, rfl⟩
    rw [← hld] at HL
    simp only [Int.cast_ofNat_Int] at HL
    clear hld h1 h2 hne
    go_enter Tryd.func13, Tryd.ntmps13
    go_wp2_with (first
      | (go_at_call 39; refine (HL.out _).mono ?_; rintro e w' ⟨rfl, hb1⟩; have hs1 := hb1.size; have S0 := hR0.below hR0.lt hb1; have c0 := S0.cell 0; have c1 := S0.cell 1; have c2 := S0.cell 2; have c3 := S0.cell 3; simp at c0 c1 c2 c3)
      | (go_at_call 40; refine (HP.out _).mono ?_; rintro e w'' ⟨rfl, hb2⟩))
    go_ret2
    exact ⟨rfl, ((hb0 _ _).trans (hb1.mono (by simp; omega))).trans (hb2.mono (by simp at hs1; omega))⟩
  · unfold newE
    rw [if_neg h1]
    have hq : (((leadV lv dn rk dc).2 : Int) != 0) = true := by rw [bne_iff_ne]; omega
    generalize leadV lv dn rk dc = q at *
    go_enter Tryd.func13, Tryd.ntmps13
    go_wp2_with (first
      | (go_at_call 39; refine (HL.out _).mono ?_; rintro e w' ⟨rfl, hb1⟩))
    go_ret2
    exact ⟨rfl, (hb0 _ _).trans (hb1.mono (by simp; omega))⟩
theorem play_new (d : Nat → Nat) (lv dn rk dc : Nat) (hd : ∀ i, i < 4 → W64 (d i)) (hok : newE d lv dn rk dc = 0) (w : World) :
    Calls Tryd.prog 13 #[.agg #[.int .u64 (d 0 : Int), .int .u64 (d 1 : Int), .int .u64 (d 2 : Int), .int .u64 (d 3 : Int)], .agg #[.int .u8 (lv : Int), .int .u8 (dn : Int), .int .u8 (rk : Int), .int .u8 (dc : Int)]] w fun e w' =>
      ∃ B, e = .returned (.tuple #[.pointer (some ⟨B, 0, none⟩), .int .i64 0]) ∧ w.heap.size ≤ B ∧ (∀ base, PlyAt w' B base (newP d lv dn rk dc) (.slice none 0 0) (.slice none 0 0)) ∧ Below w.heap.size w w' := by
  have hb0 : ∀ o o', Below w.heap.size w ((w.alloc o).alloc o') := fun o o' => ((Below.refl _ _).alloc (Nat.le_refl _) o).alloc (by simp) o'
  have HL := Lib.hid (auction_leader lv dn rk dc)
  obtain ⟨hR0, hR1⟩ := newW_rows d lv dn rk dc w
  have hz : (newW d lv dn rk dc w).heap.size = w.heap.size + 2 := by simp
  have HP := Lib.hid (play_playable d hd)
  have h1 : (leadV lv dn rk dc).2 = 0 := by
    unfold newE at hok; split at hok
    · assumption
    · exact hok
  unfold newE at hok
  rw [if_pos h1] at hok
  have h2 : dealOk d = true := by
    cases h : dealOk d
    · rw [h] at hok; cases hok
    · rfl
  rw [h2] at HP
  rw [(leadV_ok h1).1] at HL
  unfold newP
  obtain ⟨ld, hld⟩ : ∃ ld, ld = (dc + 1) % 4 := ⟨_, rfl⟩
  rw [← hld] at HL ⊢
  simp only [Int.cast_ofNat_Int] at HL
  clear hld h1 h2 hok
  go_enter Tryd.func13, Tryd.ntmps13
  go_upto_region 7 with (first
    | (go_at_call 39; refine (HL.out _).mono ?_; rintro e w1 ⟨rfl, hb1⟩; have hs1 := hb1.size; have S0 := hR0.below hR0.lt hb1; have S1 := hR1.below hR1.lt hb1; have c0 := S0.cell 0; have c1 := S0.cell 1; have c2 := S0.cell 2; have c3 := S0.cell 3; simp at c0 c1 c2 c3)
    | (go_at_call 40; refine (HP.out _).mono ?_; rintro e w2 ⟨rfl, hb2⟩; have hs2 := hb2.size; have T0 := S0.below S0.lt hb2; have T1 := S1.below S1.lt hb2; clear c0 c1 c2 c3; have c0 := T0.cell 0; have c1 := T0.cell 1; have c2 := T0.cell 2; have c3 := T0.cell 3; have d0 := T1.cell 0; have d1 := T1.cell 1; have d2 := T1.cell 2; have d3 := T1.cell 3; simp at c0 c1 c2 c3 d0 d1 d2 d3))
  have N := Row.new w2 85 #[.int .u64 0, .int .u64 0, .int .u64 0, .int .u64 0, .int .u8 0, .int .u8 0, .int .u8 0, .int .u8 0, .int .u8 0, .int .u8 0, .int .u8 (lv : Int), .int .u8 (dn : Int), .int .u8 (rk : Int), .int .u8 (dc : Int), .slice none 0 0, .slice none 0 0]
  have U0 := T0.alloc (.cells #[.int .u64 0, .int .u64 0, .int .u64 0, .int .u64 0, .int .u8 0, .int .u8 0, .int .u8 0, .int .u8 0, .int .u8 0, .int .u8 0, .int .u8 (lv : Int), .int .u8 (dn : Int), .int .u8 (rk : Int), .int .u8 (dc : Int), .slice none 0 0, .slice none 0 0] 85)
  have hbw : Below w.heap.size w w2 := ((newW_below d lv dn rk dc w).trans (hb1.mono (by rw [hz]; omega))).trans (hb2.mono (by rw [hz] at hs1; omega))
  have hbx : Below w.heap.size w (w2.alloc (.cells #[.int .u64 0, .int .u64 0, .int .u64 0, .int .u64 0, .int .u8 0, .int .u8 0, .int .u8 0, .int .u8 0, .int .u8 0, .int .u8 0, .int .u8 (lv : Int), .int .u8 (dn : Int), .int .u8 (rk : Int), .int .u8 (dc : Int), .slice none 0 0, .slice none 0 0] 85)) := hbw.alloc hbw.size _
  generalize (w2.alloc (.cells #[.int .u64 0, .int .u64 0, .int .u64 0, .int .u64 0, .int .u8 0, .int .u8 0, .int .u8 0, .int .u8 0, .int .u8 0, .int .u8 0, .int .u8 (lv : Int), .int .u8 (dn : Int), .int .u8 (rk : Int), .int .u8 (dc : Int), .slice none 0 0, .slice none 0 0] 85)) = w3 at *
  clear c0 c1 c2 c3 d0 d1 d2 d3
  have c0 := U0.cell 0
  have c1 := U0.cell 1
  have c2 := U0.cell 2
  have c3 := U0.cell 3
  have n0 := N.cell 0
  have n1 := N.cell 1
  have n2 := N.cell 2
  have n3 := N.cell 3
  have n4 := N.cell 4
  simp only [List.getElem?_toArray, List.getElem?_cons_zero, List.getElem?_cons_succ] at n0 n1 n2 n3 n4
  have f0 := N.frozen 0
  have f1 := N.frozen 1
  have f2 := N.frozen 2
  have f3 := N.frozen 3
  have f4 := N.frozen 4
  simp at c0 c1 c2 c3
  go_wp2_with fail
  go_ret2
  have hle : w.heap.size ≤ w2.heap.size := hbw.size
  have N5 := ((((N.set 0 (.int .u64 (d 0 : Int))).set 1 (.int .u64 (d 1 : Int))).set 2 (.int .u64 (d 2 : Int))).set 3 (.int .u64 (d 3 : Int))).set 4 (.int .u8 (ld : Int))
  refine ⟨w2.heap.size, rfl, hle, fun base => ⟨N5, Owns.nil stp_len _ _, Owns.nil encU_len _ _, by simp [Value.ownBlock], by simp [Value.ownBlock], by simp [Value.ownBlock]⟩, ?_⟩
  exact ((((hbx.setCell hle _).setCell hle _).setCell hle _).setCell hle _).setCell hle _
end Go.Proofs.YtginbellakkliaaDoor
