/- Contract of trick.Winners over this seat's program. -/
import Derived.Test.YthilcnhnfdddhaaDoorPlayB
import Derived.Test.YthilcnhnfdddhaaDoorTrickC
namespace Go.Proofs.YthilcnhnfdddhaaDoor
open Go.RowKit Go.Shelf Go.Sort
attribute [local go_sem] Oper.semAt_some

theorem trick_Playable (hand : Nat) (a : Option Addr) (len cap : Nat) (zs : List Nat) (w : World) (hz : Byt w a len zs) (hh : W64 hand) (hT : Tab w) :
    Calls Tryd.prog 17 #[.int .u64 (hand : Int), .slice a len cap] w fun e w' => e = .returned (.tuple #[.int .u64 ((playableV hand zs).1 : Int), .int .i64 ((playableV hand zs).2 : Int)]) ∧ Below w.heap.size w w' := by
  by_cases h : hand < 4503599627370496 ∧ 1 ≤ len ∧ len ≤ 3 ∧ rightB zs = true
  · obtain ⟨h1, h2, h3, h4⟩ := h
    have e : playableV hand zs = (playLate (suit (zs.getD 0 0)) (restV hand zs), 0) := by
      unfold playableV
      rw [hz.length, if_neg (by omega), if_neg (by omega), if_pos h4, if_neg (by omega)]
    rw [e]
    exact play_late hand a len cap zs w hz h1 h2 h3 h4 hT
  · exact play_early hand a len cap zs w hz hh h

theorem playableV_w64 (hand : Nat) (zs : List Nat) (h : W64 hand) : W64 (playableV hand zs).1 := by
  unfold playableV
  split
  · exact W64.zero
  · split
    · exact h
    · split
      · split
        · exact W64.zero
        · simp only [playLate]
          split
          · exact follow_w64 _ _
          · exact h.landn
      · exact W64.zero

/-- one round of the loop in trick.Winners -/
def winStep (t : Nat) (zs : List Nat) (f : Nat) (c : Fin 64) : Nat := if (beatsV t zs c.val).1 then lor f (shl1 c.val) else f
def winFold (t : Nat) (zs : List Nat) (l : List (Fin 64)) : Nat := l.foldl (winStep t zs) 0
theorem winFold_snoc (t : Nat) (zs : List Nat) (l : List (Fin 64)) (c : Fin 64) : winFold t zs (l ++ [c]) = winStep t zs (winFold t zs l) c := by simp [winFold]
theorem winFold_w64 (t : Nat) (zs : List Nat) (l : List (Fin 64)) : W64 (winFold t zs l) := by
  unfold winFold
  have : ∀ (l : List (Fin 64)) f, W64 f → W64 (l.foldl (winStep t zs) f) := by
    intro l
    induction l with
    | nil => exact fun f h => h
    | cons c l ih => exact fun f h => ih _ (by unfold winStep; split; exact h.lor (W64.shl1 _); exact h)
  exact this l 0 W64.zero
/-- trick.Winners -/
def winnersV (t hand : Nat) (zs : List Nat) : Nat × Nat :=
  if 4 < t then (0, 2) else if (playableV hand zs).2 = 0 then (if zs.length = 0 then ((playableV hand zs).1, 0) else (winFold t zs (bitsList (playableV hand zs).1), 0)) else (0, (playableV hand zs).2)

theorem winners_early (t hand : Nat) (a : Option Addr) (len cap : Nat) (zs : List Nat) (w : World) (hz : Byt w a len zs) (hh : W64 hand) (hT : Tab w) (he : ¬ (t ≤ 4 ∧ (playableV hand zs).2 = 0 ∧ 1 ≤ len)) :
    Calls Tryd.prog 20 #[.int .u8 (t : Int), .int .u64 (hand : Int), .slice a len cap] w fun e w' => e = .returned (.tuple #[.int .u64 ((winnersV t hand zs).1 : Int), .int .i64 ((winnersV t hand zs).2 : Int)]) ∧ Below w.heap.size w w' := by
  unfold winnersV
  rw [hz.length]
  have hBa : ∀ o o', Below w.heap.size w ((w.alloc o).alloc o') := fun o o' => ((Below.refl _ _).alloc (Nat.le_refl _) _).alloc (by simp) _
  have HBa := Lib.hid hBa
  clear hBa
  by_cases h1 : 4 < t
  · rw [if_pos h1]
    go_enter Tryd.func20, Tryd.ntmps20
    go_wp2_with fail
    go_ret2
    exact ⟨rfl, HBa.out _ _⟩
  rw [if_neg h1]
  have hP := fun o o' => trick_Playable hand a len cap zs ((w.alloc o).alloc o') (hz.below (Nat.le_refl _) (HBa.out o o')) hh (hT.below hT.pos (HBa.out o o'))
  have HP := Lib.hid hP
  clear hP
  generalize playableV hand zs = x at *
  obtain ⟨x, y⟩ := x
  dsimp only at *
  by_cases h2 : y = 0
  · subst h2
    rw [if_pos rfl]
    have h3 : len = 0 := by
      have : ¬ (t ≤ 4 ∧ 1 ≤ len) := fun ⟨a, b⟩ => he ⟨a, rfl, b⟩
      omega
    subst h3
    rw [if_pos rfl]
    clear he
    go_enter Tryd.func20, Tryd.ntmps20
    go_wp2_with fail
    refine (HP.out _ _).mono ?_
    rintro e w1 ⟨rfl, hb1⟩
    have hB := (HBa.out (.cells #[.int .u8 (t : Int)] 5) (.cells #[.slice a 0 cap] 23)).trans (hb1.mono (HBa.out _ _).size)
    have hc : w1.cell? ⟨w.heap.size + 1, 0, none⟩ = some (.slice a 0 cap) := (hb1.cell (p := ⟨w.heap.size + 1, 0, none⟩) (by simp)).trans (by simp [go_sem])
    go_wp2
    go_ret2
    exact ⟨rfl, hB⟩
  · rw [if_neg h2]
    have h2' : ((y : Int) != 0) = true := by rw [bne_iff_ne]; omega
    clear he
    go_enter Tryd.func20, Tryd.ntmps20
    go_wp2_with fail
    refine (HP.out _ _).mono ?_
    rintro e w1 ⟨rfl, hb1⟩
    have hB := (HBa.out (.cells #[.int .u8 (t : Int)] 5) (.cells #[.slice a len cap] 23)).trans (hb1.mono (HBa.out _ _).size)
    go_wp2
    go_ret2
    exact ⟨rfl, hB⟩

theorem winners_late (t hand : Nat) (a : Option Addr) (len cap : Nat) (zs : List Nat) (w : World) (hz : Byt w a len zs) (hh : W64 hand) (hT : Tab w) (h4 : t ≤ 4) (h0 : (playableV hand zs).2 = 0) (hl : 1 ≤ len) :
    Calls Tryd.prog 20 #[.int .u8 (t : Int), .int .u64 (hand : Int), .slice a len cap] w fun e w' => e = .returned (.tuple #[.int .u64 ((winFold t zs (bitsList (playableV hand zs).1) : Nat) : Int), .int .i64 0]) ∧ Below w.heap.size w w' := by
  have hBa : ∀ o o', Below w.heap.size w ((w.alloc o).alloc o') := fun o o' => ((Below.refl _ _).alloc (Nat.le_refl _) _).alloc (by simp) _
  have HBa := Lib.hid hBa
  clear hBa
  have hP := fun o o' => trick_Playable hand a len cap zs ((w.alloc o).alloc o') (hz.below (Nat.le_refl _) (HBa.out o o')) hh (hT.below hT.pos (HBa.out o o'))
  have HP := Lib.hid hP
  clear hP
  have hx := playableV_w64 hand zs hh
  generalize playableV hand zs = x at *
  obtain ⟨x, y⟩ := x
  dsimp only at *
  subst h0
  have hl' : ((len : Int) == 0) = false := by simp; omega
  refine (callsIn_wide (n := 9)).1 (callsIn_of_wp_marks Tryd.func20 rfl trivial ?_)
  simp only [Tryd.ntmps20, List.size_toArray, List.length_cons, List.length_nil, Nat.reduceAdd, Nat.reduceSub, Array.replicate_succ, Array.replicate_zero, List.push_toArray, List.append_toArray, List.nil_append, List.cons_append]
  gi_wp2_with fail
  refine (callsIn_wide.2 (HP.out _ _)).mono ?_
  rintro e w1 ⟨rfl, hb1⟩
  have hB1 := (HBa.out (.cells #[.int .u8 (t : Int)] 5) (.cells #[.slice a len cap] 23)).trans (hb1.mono (HBa.out _ _).size)
  have hbx1 : Boxed w1 w.heap.size 5 (.int .u8 (t : Int)) := boxed_below ((Boxed.new w _ _).alloc _) hb1
  have hbx2 : Boxed w1 (w.heap.size + 1) 23 (.slice a len cap) := by
    have := Boxed.new (w.alloc (.cells #[.int .u8 (t : Int)] 5)) 23 (.slice a len cap)
    rw [World.size_alloc] at this
    exact boxed_below this hb1
  have hc2 := hbx2.cell
  gi_wp2_with (gi_at_call 40; refine (callsIn_wide.2 (trick_cards _ _)).mono ?_; rintro e w' ⟨rfl, rfl⟩)
  have hBW : Below w1.heap.size w1 ((w1.alloc (.cells #[.int .u64 0] 22)).alloc (.cells #[.int .u64 (x : Int)] 22)) := ((Below.refl _ _).alloc (Nat.le_refl _) _).alloc (by simp) _
  have hbx3 := (Boxed.new w1 22 (.int .u64 0)).alloc (.cells #[.int .u64 (x : Int)] 22)
  have hbx4 := Boxed.new (w1.alloc (.cells #[.int .u64 0] 22)) 22 (.int .u64 (x : Int))
  rw [World.size_alloc] at hbx4
  have hB2 := hB1.trans (hBW.mono hB1.size)
  refine range_cards (w1.heap.size + 1) w.heap.size x (by decide) rfl (by simp) hx hbx4.cell (hT.below hT.pos hB2) hT.pos hB2.size
    (fun pre W => (Boxed W w.heap.size 5 (.int .u8 (t : Int)) ∧ Boxed W (w.heap.size + 1) 23 (.slice a len cap) ∧ Boxed W w1.heap.size 22 (.int .u64 (winFold t zs pre : Int))) ∧ Below w.heap.size w W) (fun _ _ _ => False)
    (OwnFrom.and (OwnFrom.and ((boxed_own _ _ _).from _) (OwnFrom.and ((boxed_own _ _ _).from _) ((boxed_own _ _ _).from _))) (ownFrom_below (Nat.le_refl _) hB2.size)) (fun _ _ _ _ _ h _ _ => h) ⟨⟨boxed_below hbx1 hBW, boxed_below hbx2 hBW, hbx3⟩, hB2⟩ ?body ?done (fun _ _ _ _ _ _ h _ => h.elim)
  case body =>
    rintro l pre c W ⟨⟨hb1, hb2, hb3⟩, hB⟩ _
    simp only [inFrame, List.setIfInBounds_toArray, List.set]
    have hc1 := hb1.cell
    have hc2 := hb2.cell
    have hst := winFold_snoc t zs pre c
    have hfw := winFold_w64 t zs pre
    generalize winFold t zs pre = f at *
    unfold winStep at hst
    have hBt := trick_Beats t c.val a len cap zs W (hz.below (Nat.le_refl _) hB) (by omega)
    generalize beatsV t zs c.val = y at *
    obtain ⟨y, z⟩ := y
    dsimp only at *
    have HST := Lib.hid hst
    have HBT := Lib.hid hBt
    clear hst hBt
    have hlt1 := hb1.lt
    have hlt3 := hb3.lt
    have hszw := hB1.size
    have hlt2 := hbx2.lt
    gi_wp2_with fail
    refine (CallsIn.inRound l (callsIn_wide.2 HBT.out)).mono ?_
    rintro e W2 ⟨rfl, hbb⟩
    have hb1' := boxed_below hb1 hbb
    have hb2' := boxed_below hb2 hbb
    have hb3' := boxed_below hb3 hbb
    have hsz3 := hbb.size
    cases y
    · gi_wp2
      exact ⟨keepsFrom_of_below hbb, hbb.mono (by omega), ⟨hb1', hb2', by rw [HST.out]; exact hb3'⟩, hB.trans (hbb.mono (by omega))⟩
    · have hc3' := hb3'.cell
      have hf3' := hb3'.frozen
      gi_wp2
      exact ⟨(keepsFrom_of_below hbb).trans ((KeepsOthers.setCell _ _ _).from _), (hbb.mono (by omega)).setCell (p := ⟨w1.heap.size, 0, none⟩) (by simp; omega) _, ⟨hb1'.other (by omega) _, hb2'.other (by omega) _, by rw [HST.out]; exact hb3'.set _⟩, (hB.trans (hbb.mono (by omega))).setCell (p := ⟨w1.heap.size, 0, none⟩) (by simp; omega) _⟩
  case done =>
    rintro D W hD ⟨⟨hb1, hb2, hb3⟩, hB⟩ hK
    have hc3 := hb3.cell
    have hszw := hB1.size
    gi_wp2
    refine ⟨by simp, .inl ⟨_, _, rfl, run_takeDeferred hK, ?_⟩⟩
    refine ⟨_, results_tmp2 rfl _ _ _, rfl, ?_⟩
    exact hB.trans (belowK_b (w := w) (Nat.le_refl _) W D _ _ (by simp at hD; omega) hK rfl rfl)

theorem trick_Winners (t hand : Nat) (a : Option Addr) (len cap : Nat) (zs : List Nat) (w : World) (hz : Byt w a len zs) (hh : W64 hand) (hT : Tab w) :
    Calls Tryd.prog 20 #[.int .u8 (t : Int), .int .u64 (hand : Int), .slice a len cap] w fun e w' => e = .returned (.tuple #[.int .u64 ((winnersV t hand zs).1 : Int), .int .i64 ((winnersV t hand zs).2 : Int)]) ∧ Below w.heap.size w w' := by
  by_cases h : t ≤ 4 ∧ (playableV hand zs).2 = 0 ∧ 1 ≤ len
  · obtain ⟨h1, h2, h3⟩ := h
    have e : winnersV t hand zs = (winFold t zs (bitsList (playableV hand zs).1), 0) := by
      unfold winnersV
      rw [hz.length, if_neg (by omega), if_pos h2, if_neg (by omega)]
    rw [e]
    exact winners_late t hand a len cap zs w hz hh hT h1 h2 h3
  · exact winners_early t hand a len cap zs w hz hh hT h
end Go.Proofs.YthilcnhnfdddhaaDoor
