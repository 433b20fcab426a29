/- revoke.Moved and revoke.Tricks over this seat's program. -/
import Derived.Test.YtdlnilebnobllaaRvCnt
namespace Go.Proofs.Ytdlnilebnobllaa
open Go.RowKit Go.Shelf Go.Sort

/-- revoke.count, whatever the record -/
def Rc.cntE (r : Rc) : (Nat × Nat) × (Nat × Nat) × Nat := if r.rightV.2 = 0 then r.cnt else ((0, 0), (0, 0), r.rightV.2)
/-- revoke.Moved -/
def Rc.movedV (r : Rc) : Nat × Nat × Nat :=
  if r.cntE.2.2 = 0 then (if r.d % 2 = 0 then (r.cntE.1.1, r.cntE.1.2, 0) else (r.cntE.1.2, r.cntE.1.1, 0)) else (0, 0, r.cntE.2.2)
/-- revoke.Tricks -/
def Rc.tricksV (r : Rc) : Int × Int × Nat :=
  if r.cntE.2.2 = 0 then (if r.d % 2 = 0 then ((r.cntE.2.1.1 : Int) - r.cntE.1.1 + r.cntE.1.2, (r.cntE.2.1.2 : Int) - r.cntE.1.2 + r.cntE.1.1, 0) else ((r.cntE.2.1.2 : Int) - r.cntE.1.2 + r.cntE.1.1, (r.cntE.2.1.1 : Int) - r.cntE.1.1 + r.cntE.1.2, 0)) else (0, 0, r.cntE.2.2)
theorem cntAll_ok (d : Nat) (ws : List Nat) (l : List Rvk) : (cntAll d ws l).ok ws.length := by
  unfold cntAll
  have : ∀ (l : List Rvk) (c : Cnt), c.ok ws.length → (l.foldl (cntStep d ws) c).ok ws.length := by
    intro l
    induction l with
    | nil => exact fun c h => h
    | cons v l ih => exact fun c h => ih _ (cntStep_ok v h)
  exact this l _ ⟨Nat.zero_le _, Nat.zero_le _, Nat.zero_le _⟩
theorem wins_le (r : Rc) : (winsTo r.rnds).length ≤ r.zs.length := Nat.le_trans (winsTo_le _) (sumTo_le (List.prefix_refl _))
theorem cnt_small (r : Rc) (len : Nat) (hl : r.zs.length ≤ len) : r.cntE.1.1 ≤ len ∧ r.cntE.1.2 ≤ len ∧ r.cntE.2.1.1 ≤ len ∧ r.cntE.2.1.2 ≤ len := by
  have hw := wins_le r
  obtain ⟨_, h1, h2⟩ := cntAll_ok r.d (winsTo r.rnds) (findAll r.rnds)
  have h3 := wonV_le (winsTo r.rnds) 0 0
  have h4 := wonV_le (winsTo r.rnds) 1 0
  unfold Rc.cntE
  split
  · unfold Rc.cnt
    split
    · simp
    · dsimp only
      split
      · simp; omega
      · dsimp only; omega
  · simp
theorem right_zero {r : Rc} (h : r.rightV.2 = 0) : r.dealt = true ∧ r.rightV = (-1, 0) := by
  unfold Rc.rightV at h ⊢
  split at h
  next hd =>
    refine ⟨hd, ?_⟩
    rw [if_pos hd]
    split at h
    · simp at h
    next hs => rw [if_neg hs]
  next => simp at h
theorem rev_right (r : Rc) (a : Option Addr) (len cap : Nat) (w : World) (hok : r.ok len cap) (hz : Byt w a len r.zs) (hab : ∀ ad, a = some ad → ad.block < w.heap.size) :
    Calls Try.prog 23 #[r.v a len cap] w fun e w' => e = .returned (.tuple #[.int .i64 r.rightV.1, .int .i64 (r.rightV.2 : Int)]) ∧ Below w.heap.size w w' := by
  cases hd : r.dealt
  · have := rev_right_no r a len cap w hok hd
    unfold Rc.rightV
    rw [hd]
    exact this
  · exact rev_right_ok r a len cap w hok hz hab hd
theorem rev_count (r : Rc) (a : Option Addr) (len cap : Nat) (w : World) (hok : r.ok len cap) (hz : Byt w a len r.zs) (hab : ∀ ad, a = some ad → ad.block < w.heap.size) (h60 : len ≤ 60000) :
    Calls Try.prog 36 #[r.v a len cap] w fun e w' => e = .returned (.tuple #[pairV r.cntE.1, pairV r.cntE.2.1, .int .i64 (r.cntE.2.2 : Int)]) ∧ Below w.heap.size w w' := by
  unfold Rc.cntE
  by_cases h : r.rightV.2 = 0
  · rw [if_pos h]
    obtain ⟨h1, h2⟩ := right_zero h
    exact rev_count_ok r a len cap w hok hz hab h1 h2 h60
  · rw [if_neg h]
    refine rev_count_no r a len cap w r.rightV.2 h fun w1 hb => ?_
    refine rev_find_no r a len cap w1 r.rightV.1 r.rightV.2 h fun w2 hb2 => ?_
    have hb3 := hb.trans (hb2.mono hb.size)
    exact rev_right r a len cap w2 hok (hz.below (Nat.le_refl _) hb3) (fun ad h => Nat.lt_of_lt_of_le (hab ad h) hb3.size)
set_option maxHeartbeats 1000000 in
theorem rev_moved (r : Rc) (a : Option Addr) (len cap : Nat) (w : World) (hok : r.ok len cap) (hz : Byt w a len r.zs) (hab : ∀ ad, a = some ad → ad.block < w.heap.size) (h60 : len ≤ 60000) :
    Calls Try.prog 19 #[r.v a len cap] w fun e w' => e = .returned (.tuple #[.int .i64 (r.movedV.1 : Int), .int .i64 (r.movedV.2.1 : Int), .int .i64 (r.movedV.2.2 : Int)]) ∧ Below w.heap.size w w' := by
  have HC : Hid (∀ w1, Below w.heap.size w w1 → Calls Try.prog 36 #[r.v a len cap] w1 fun e w' => e = .returned (.tuple #[pairV r.cntE.1, pairV r.cntE.2.1, .int .i64 (r.cntE.2.2 : Int)]) ∧ Below w1.heap.size w1 w') :=
    fun w1 hb => rev_count r a len cap w1 hok (hz.below (Nat.le_refl _) hb) (fun ad h => Nat.lt_of_lt_of_le (hab ad h) hb.size) h60
  obtain ⟨z0, z1, z2, z3⟩ := cnt_small r len (by rw [hz.length]; exact Nat.le_refl _)
  unfold Rc.movedV
  generalize r.cntE = C at *
  obtain ⟨⟨s0, s1⟩, ⟨a0, a1⟩, E⟩ := C
  dsimp only at HC z0 z1 z2 z3 ⊢
  have hdd := hok.d
  rcases (show (E = 0 ∧ r.d % 2 = 0) ∨ (E = 0 ∧ r.d % 2 = 1) ∨ 0 < E by omega) with ⟨hE, hpar⟩ | ⟨hE, hpar⟩ | hE
  · rw [if_pos hE, if_pos hpar]
    subst hE
    have hpI : (r.d : Int) % 2 = 0 := by omega
    go_enter Try.func19, Try.ntmps19
    go_wp2_with fail
    have hB := (Below.refl w.heap.size w).alloc (Nat.le_refl _) (.cells (r.cells a len cap) 27)
    have hR := Row.new w 27 (r.cells a len cap)
    refine (HC.out _ hB).mono ?_
    rintro e w1 ⟨rfl, hb1⟩
    have hR1 := hR.below (by simp) hb1
    have hB1 := hB.trans (hb1.mono (by simp))
    have hs1 := hb1.size
    rw [World.size_alloc] at hs1
    have c5 := ((hR1.alloc (.cells #[.int .i64 (s0 : Int), .int .i64 (s1 : Int)] 43)).alloc (.cells #[.int .i64 (a0 : Int), .int .i64 (a1 : Int)] 43)).cell 5
    simp at c5
    have hBB := Lib.hid (((hB1.alloc (by omega) (.cells #[.int .i64 (s0 : Int), .int .i64 (s1 : Int)] 43)).alloc (by simp; omega) (.cells #[.int .i64 (a0 : Int), .int .i64 (a1 : Int)] 43)).drew)
    clear hb1 hB1 hB
    go_wp2
    go_region
    go_wp2
    go_ret3
    exact ⟨rfl, hBB.out⟩
  · rw [if_pos hE, if_neg (by omega)]
    subst hE
    have hpI : (r.d : Int) % 2 = 1 := by omega
    go_enter Try.func19, Try.ntmps19
    go_wp2_with fail
    have hB := (Below.refl w.heap.size w).alloc (Nat.le_refl _) (.cells (r.cells a len cap) 27)
    have hR := Row.new w 27 (r.cells a len cap)
    refine (HC.out _ hB).mono ?_
    rintro e w1 ⟨rfl, hb1⟩
    have hR1 := hR.below (by simp) hb1
    have hB1 := hB.trans (hb1.mono (by simp))
    have hs1 := hb1.size
    rw [World.size_alloc] at hs1
    have c5 := ((hR1.alloc (.cells #[.int .i64 (s0 : Int), .int .i64 (s1 : Int)] 43)).alloc (.cells #[.int .i64 (a0 : Int), .int .i64 (a1 : Int)] 43)).cell 5
    simp at c5
    have hBB := Lib.hid (((hB1.alloc (by omega) (.cells #[.int .i64 (s0 : Int), .int .i64 (s1 : Int)] 43)).alloc (by simp; omega) (.cells #[.int .i64 (a0 : Int), .int .i64 (a1 : Int)] 43)).drew)
    clear hb1 hB1 hB
    go_wp2
    go_region
    go_wp2
    go_ret3
    exact ⟨rfl, hBB.out⟩
  · rw [if_neg (by omega)]
    have hEI : ((E : Int) != 0) = true := by rw [bne_iff_ne]; omega
    go_enter Try.func19, Try.ntmps19
    go_wp2_with fail
    have hB := (Below.refl w.heap.size w).alloc (Nat.le_refl _) (.cells (r.cells a len cap) 27)
    refine (HC.out _ hB).mono ?_
    rintro e w1 ⟨rfl, hb1⟩
    have hB1 := hB.trans (hb1.mono (by simp))
    have hs1 := hb1.size
    rw [World.size_alloc] at hs1
    have hBB := Lib.hid ((hB1.alloc (by omega) (.cells #[.int .i64 (s0 : Int), .int .i64 (s1 : Int)] 43)).alloc (by simp; omega) (.cells #[.int .i64 (a0 : Int), .int .i64 (a1 : Int)] 43))
    clear hb1 hB1 hB
    go_wp2
    go_ret3
    exact ⟨rfl, hBB.out⟩
set_option maxHeartbeats 1000000 in
theorem rev_tricks (r : Rc) (a : Option Addr) (len cap : Nat) (w : World) (hok : r.ok len cap) (hz : Byt w a len r.zs) (hab : ∀ ad, a = some ad → ad.block < w.heap.size) (h60 : len ≤ 60000) :
    Calls Try.prog 20 #[r.v a len cap] w fun e w' => e = .returned (.tuple #[.int .i64 r.tricksV.1, .int .i64 r.tricksV.2.1, .int .i64 (r.tricksV.2.2 : Int)]) ∧ Below w.heap.size w w' := by
  have HC : Hid (∀ w1, Below w.heap.size w w1 → Calls Try.prog 36 #[r.v a len cap] w1 fun e w' => e = .returned (.tuple #[pairV r.cntE.1, pairV r.cntE.2.1, .int .i64 (r.cntE.2.2 : Int)]) ∧ Below w1.heap.size w1 w') :=
    fun w1 hb => rev_count r a len cap w1 hok (hz.below (Nat.le_refl _) hb) (fun ad h => Nat.lt_of_lt_of_le (hab ad h) hb.size) h60
  obtain ⟨z0, z1, z2, z3⟩ := cnt_small r len (by rw [hz.length]; exact Nat.le_refl _)
  unfold Rc.tricksV
  generalize r.cntE = C at *
  obtain ⟨⟨s0, s1⟩, ⟨a0, a1⟩, E⟩ := C
  dsimp only at HC z0 z1 z2 z3 ⊢
  have hdd := hok.d
  rcases (show (E = 0 ∧ r.d % 2 = 0) ∨ (E = 0 ∧ r.d % 2 = 1) ∨ 0 < E by omega) with ⟨hE, hpar⟩ | ⟨hE, hpar⟩ | hE
  · rw [if_pos hE, if_pos hpar]
    subst hE
    have hpI : (r.d : Int) % 2 = 0 := by omega
    have e1 : IntKind.i64.wrap ((a0 : Int) - (s0 : Int)) = (a0 : Int) - (s0 : Int) := by rw [IntKind.wrap_i64]; omega
    have e2 : IntKind.i64.wrap ((a1 : Int) - (s1 : Int)) = (a1 : Int) - (s1 : Int) := by rw [IntKind.wrap_i64]; omega
    have e3 : IntKind.i64.wrap ((a0 : Int) - (s0 : Int) + (s1 : Int)) = (a0 : Int) - (s0 : Int) + (s1 : Int) := by rw [IntKind.wrap_i64]; omega
    have e4 : IntKind.i64.wrap ((a1 : Int) - (s1 : Int) + (s0 : Int)) = (a1 : Int) - (s1 : Int) + (s0 : Int) := by rw [IntKind.wrap_i64]; omega
    go_enter Try.func20, Try.ntmps20
    go_wp2_with fail
    have hB := (Below.refl w.heap.size w).alloc (Nat.le_refl _) (.cells (r.cells a len cap) 27)
    have hR := Row.new w 27 (r.cells a len cap)
    refine (HC.out _ hB).mono ?_
    rintro e w1 ⟨rfl, hb1⟩
    have hR1 := hR.below (by simp) hb1
    have hB1 := hB.trans (hb1.mono (by simp))
    have hs1 := hb1.size
    rw [World.size_alloc] at hs1
    have c5 := ((hR1.alloc (.cells #[.int .i64 (s0 : Int), .int .i64 (s1 : Int)] 43)).alloc (.cells #[.int .i64 (a0 : Int), .int .i64 (a1 : Int)] 43)).cell 5
    simp at c5
    have hBB := Lib.hid (((hB1.alloc (by omega) (.cells #[.int .i64 (s0 : Int), .int .i64 (s1 : Int)] 43)).alloc (by simp; omega) (.cells #[.int .i64 (a0 : Int), .int .i64 (a1 : Int)] 43)).drew)
    clear hb1 hB1 hB
    go_wp2
    go_region
    go_wp2
    go_ret3
    exact ⟨rfl, hBB.out⟩
  · rw [if_pos hE, if_neg (by omega)]
    subst hE
    have hpI : (r.d : Int) % 2 = 1 := by omega
    have e1 : IntKind.i64.wrap ((a0 : Int) - (s0 : Int)) = (a0 : Int) - (s0 : Int) := by rw [IntKind.wrap_i64]; omega
    have e2 : IntKind.i64.wrap ((a1 : Int) - (s1 : Int)) = (a1 : Int) - (s1 : Int) := by rw [IntKind.wrap_i64]; omega
    have e3 : IntKind.i64.wrap ((a0 : Int) - (s0 : Int) + (s1 : Int)) = (a0 : Int) - (s0 : Int) + (s1 : Int) := by rw [IntKind.wrap_i64]; omega
    have e4 : IntKind.i64.wrap ((a1 : Int) - (s1 : Int) + (s0 : Int)) = (a1 : Int) - (s1 : Int) + (s0 : Int) := by rw [IntKind.wrap_i64]; omega
    go_enter Try.func20, Try.ntmps20
    go_wp2_with fail
    have hB := (Below.refl w.heap.size w).alloc (Nat.le_refl _) (.cells (r.cells a len cap) 27)
    have hR := Row.new w 27 (r.cells a len cap)
    refine (HC.out _ hB).mono ?_
    rintro e w1 ⟨rfl, hb1⟩
    have hR1 := hR.below (by simp) hb1
    have hB1 := hB.trans (hb1.mono (by simp))
    have hs1 := hb1.size
    rw [World.size_alloc] at hs1
    have c5 := ((hR1.alloc (.cells #[.int .i64 (s0 : Int), .int .i64 (s1 : Int)] 43)).alloc (.cells #[.int .i64 (a0 : Int), .int .i64 (a1 : Int)] 43)).cell 5
    simp at c5
    have hBB := Lib.hid (((hB1.alloc (by omega) (.cells #[.int .i64 (s0 : Int), .int .i64 (s1 : Int)] 43)).alloc (by simp; omega) (.cells #[.int .i64 (a0 : Int), .int .i64 (a1 : Int)] 43)).drew)
    clear hb1 hB1 hB
    go_wp2
    go_region
    go_wp2
    go_ret3
    exact ⟨rfl, hBB.out⟩
  · rw [if_neg (by omega)]
    have hEI : ((E : Int) != 0) = true := by rw [bne_iff_ne]; omega
    go_enter Try.func20, Try.ntmps20
    go_wp2_with fail
    have hB := (Below.refl w.heap.size w).alloc (Nat.le_refl _) (.cells (r.cells a len cap) 27)
    refine (HC.out _ hB).mono ?_
    rintro e w1 ⟨rfl, hb1⟩
    have hB1 := hB.trans (hb1.mono (by simp))
    have hs1 := hb1.size
    rw [World.size_alloc] at hs1
    have hBB := Lib.hid ((hB1.alloc (by omega) (.cells #[.int .i64 (s0 : Int), .int .i64 (s1 : Int)] 43)).alloc (by simp; omega) (.cells #[.int .i64 (a0 : Int), .int .i64 (a1 : Int)] 43))
    clear hb1 hB1 hB
    go_wp2
    go_ret3
    exact ⟨rfl, hBB.out⟩
end Go.Proofs.Ytdlnilebnobllaa
