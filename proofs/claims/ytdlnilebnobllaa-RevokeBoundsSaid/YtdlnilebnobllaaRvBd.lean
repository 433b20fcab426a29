/- The body of finesselaw13.RevokeBounds over this seat's program. -/
import Derived.Test.YtdlnilebnobllaaRvBdP
import Derived.Test.YtdlnilebnobllaaRvAw
namespace Go.Proofs.Ytdlnilebnobllaa
open Go.RowKit Go.Shelf Go.Sort

/-- how often a side wins among the first k -/
def sideTo (ws : List Nat) (d s : Nat) (k : Nat) : Nat := (ws.take k).countP fun z => (z + d) % 2 == s
theorem sideTo_succ (ws : List Nat) (d s k : Nat) (h : k < ws.length) : sideTo ws d s (k + 1) = sideTo ws d s k + if (ws.getD k 0 + d) % 2 = s then 1 else 0 := by
  unfold sideTo
  rw [List.take_succ_eq_append_getElem h, List.countP_append, List.getD_eq_getElem?_getD, List.getElem?_eq_getElem h]
  simp [List.countP_cons]
theorem sideTo_le (ws : List Nat) (d s k : Nat) : sideTo ws d s k ≤ k := Nat.le_trans List.countP_le_length (List.length_take_le _ _)
theorem sideTo_all (ws : List Nat) (d s : Nat) (hs : s < 2) : sideTo ws d s ws.length = wonV ws ((s + d) % 2) 0 := by
  unfold sideTo wonV
  rw [List.take_length, List.drop_zero]
  apply List.countP_congr
  intro z _
  rw [beq_iff_eq, beq_iff_eq]
  omega
theorem wonV_sum (ws : List Nat) : wonV ws 0 0 + wonV ws 1 0 = ws.length := by
  unfold wonV
  rw [List.drop_zero]
  induction ws with
  | nil => rfl
  | cons z l ih =>
    rw [List.countP_cons, List.countP_cons, List.length_cons, ← ih]
    by_cases h : z % 2 = 0
    · simp [h]; omega
    · have : z % 2 = 1 := by omega
      simp [this]; omega

set_option maxHeartbeats 2000000 in
set_option maxRecDepth 100000 in
theorem law_RevokeBounds (x : Sk) (ao : Option Addr) (lo co : Nat) (ap : Option Addr) (lp cp : Nat) (w : World) (ho : Byt w ao lo x.order) (hp : Byt w ap lp x.play)
    (hsz : x.size < 256) (htr : x.trumps < 256) (hde : x.decl < 256) :
    Calls Try.prog 5 #[.agg (x.cells ao lo co ap lp cp)] w fun e w' => e = .returned (.bool true) ∧ Below w.heap.size w w' := by
  have hn := x.n_le
  have HA := Lib.hid (show ∀ w1, Calls Try.prog 12 #[] w1 fun e w' => e = .returned (.bool true) ∧ Below w1.heap.size w1 w' from awake_true)
  have HM : Hid (∀ w1, Below w.heap.size w w1 → Calls Try.prog 17 #[.agg (x.cells ao lo co ap lp cp)] w1 fun e w' =>
      ∃ a cap, e = .returned (x.rc.v a (4 * x.n) cap) ∧ x.rc.ok (4 * x.n) cap ∧ Byt w' a (4 * x.n) x.rc.zs ∧ (∀ ad, a = some ad → w1.heap.size ≤ ad.block ∧ ad.block < w'.heap.size) ∧ OwnU w' w1.heap.size (.slice a (4 * x.n) cap) x.rc.zs ∧ Below w1.heap.size w1 w') :=
    fun w1 hb => law_made x ao lo co ap lp cp w1 (ho.below (Nat.le_refl _) hb) (hp.below (Nat.le_refl _) hb) hsz htr hde
  go_enter Try.func5, Try.ntmps5
  go_wp2_with fail
  have hB0 := (Below.refl w.heap.size w).alloc (Nat.le_refl _) (.cells (x.cells ao lo co ap lp cp) 36)
  have hX := Row.new w 36 (x.cells ao lo co ap lp cp)
  refine (HA.out _).mono ?_
  rintro e w1 ⟨rfl, hb1⟩
  have hB1 := hB0.trans (hb1.mono hB0.size)
  have hX1 := hX.below hX.lt hb1
  clear hX hB0 hb1
  have x0 := hX1.cell 0
  have x1 := hX1.cell 1
  have x2 := hX1.cell 2
  have x3 := hX1.cell 3
  have x4 := hX1.cell 4
  have x5 := hX1.cell 5
  simp only [List.getElem?_toArray, List.getElem?_cons_zero, List.getElem?_cons_succ] at x0 x1 x2 x3 x4 x5
  go_wp2_with fail
  refine (HM.out w1 hB1).mono ?_
  rintro e w2 ⟨a, cap, rfl, hok, hz, hab, how, hb2⟩
  have hB2 := hB1.trans (hb2.mono hB1.size)
  have hR := Row.new w2 27 (x.rc.cells a (4 * x.n) cap)
  have hBr : Below w2.heap.size w2 (w2.alloc (.cells (x.rc.cells a (4 * x.n) cap) 27)) := (Below.refl _ _).alloc (Nat.le_refl _) _
  have hzB : ∀ w3, Below w2.heap.size w2 w3 → Byt w3 a (4 * x.n) x.rc.zs ∧ ∀ ad, a = some ad → ad.block < w3.heap.size := fun w3 h => ⟨hz.below (Nat.le_refl _) h, fun ad he => Nat.lt_of_lt_of_le (hab ad he).2 h.size⟩
  have HWI : Hid (∀ w3, Below w2.heap.size w2 w3 → Calls Try.prog 18 #[x.rc.v a (4 * x.n) cap] w3 fun e w' => ∃ v, e = .returned (.tuple #[v, .int .i64 0]) ∧ OwnU w' w3.heap.size v (winsTo x.rc.rnds) ∧ Below w3.heap.size w3 w') :=
    fun w3 h => rev_winners_ok _ _ _ _ w3 hok (hzB w3 h).1 (hzB w3 h).2 (made_dealt x) (made_right x)
  have HMV : Hid (∀ w3, Below w2.heap.size w2 w3 → Calls Try.prog 19 #[x.rc.v a (4 * x.n) cap] w3 fun e w' => e = .returned (.tuple #[.int .i64 (x.rc.movedV.1 : Int), .int .i64 (x.rc.movedV.2.1 : Int), .int .i64 (x.rc.movedV.2.2 : Int)]) ∧ Below w3.heap.size w3 w') :=
    fun w3 h => rev_moved _ _ _ _ w3 hok (hzB w3 h).1 (hzB w3 h).2 (by omega)
  have HTR : Hid (∀ w3, Below w2.heap.size w2 w3 → Calls Try.prog 20 #[x.rc.v a (4 * x.n) cap] w3 fun e w' => e = .returned (.tuple #[.int .i64 x.rc.tricksV.1, .int .i64 x.rc.tricksV.2.1, .int .i64 (x.rc.tricksV.2.2 : Int)]) ∧ Below w3.heap.size w3 w') :=
    fun w3 h => rev_tricks _ _ _ _ w3 hok (hzB w3 h).1 (hzB w3 h).2 (by omega)
  have hrd := hok.d
  have hrd3 := dealt_d (made_dealt x)
  obtain ⟨hwl, hw4⟩ := made_wins x
  obtain ⟨s0, s1, hcE, hor, hs0, hs1, -, -⟩ := made_cnt x
  have hws := wonV_sum (winsTo x.rc.rnds)
  have hmv : x.rc.movedV = (if x.rc.d % 2 = 0 then (s0, s1, 0) else (s1, s0, 0)) := by unfold Rc.movedV; rw [hcE]; simp
  have htr' : x.rc.tricksV = (if x.rc.d % 2 = 0 then ((wonV (winsTo x.rc.rnds) 0 0 : Int) - s0 + s1, (wonV (winsTo x.rc.rnds) 1 0 : Int) - s1 + s0, 0) else ((wonV (winsTo x.rc.rnds) 1 0 : Int) - s1 + s0, (wonV (winsTo x.rc.rnds) 0 0 : Int) - s0 + s1, 0)) := by unfold Rc.tricksV; rw [hcE]; simp
  have ha0 := sideTo_all (winsTo x.rc.rnds) x.rc.d 0 (by omega)
  have ha1 := sideTo_all (winsTo x.rc.rnds) x.rc.d 1 (by omega)
  have hBl := Lib.hid (show ∀ i, (winsTo x.rc.rnds).getD i 0 < 4 from fun i => getD_lt (by omega) hw4 i)
  clear hw4 hcE hzB hX1 x0 x1 x2 x3 x4 x5
  generalize winsTo x.rc.rnds = ws at *
  -- the numbers: a b moved, c d tricks
  obtain ⟨A, B, C, D, hA, hBq, hlaw⟩ : ∃ (A B : Nat) (C D : Int), x.rc.movedV = (A, B, 0) ∧ x.rc.tricksV = (C, D, 0) ∧
      (C + D = ws.length ∧ C = (sideTo ws x.rc.d 0 ws.length : Int) - A + B ∧ (A = 0 ∨ B = 0) ∧ A ≤ sideTo ws x.rc.d 0 ws.length ∧ B ≤ sideTo ws x.rc.d 1 ws.length) := by
    rw [hmv, htr']
    by_cases hpar : x.rc.d % 2 = 0
    · rw [if_pos hpar, if_pos hpar]
      rw [show (0 + x.rc.d) % 2 = 0 by omega] at ha0
      rw [show (1 + x.rc.d) % 2 = 1 by omega] at ha1
      exact ⟨_, _, _, _, rfl, rfl, by omega, by omega, by omega, by omega, by omega⟩
    · rw [if_neg hpar, if_neg hpar]
      rw [show (0 + x.rc.d) % 2 = 1 by omega] at ha0
      rw [show (1 + x.rc.d) % 2 = 0 by omega] at ha1
      exact ⟨_, _, _, _, rfl, rfl, by omega, by omega, by omega, by omega, by omega⟩
  rw [hA] at HMV
  rw [hBq] at HTR
  clear hmv htr' ha0 ha1 hA hBq hor hs0 hs1 hws
  have HLAW := Lib.hid hlaw
  clear hlaw
  obtain ⟨L, hL⟩ : ∃ L, L = 4 * x.n := ⟨_, rfl⟩
  have hLn : ws.length = L / 4 := by omega
  have hL24 : L ≤ 24 := by omega
  rw [← hL] at hok hz how hR hBr HWI HMV HTR ⊢
  have hne : ((ws.length : Int) != (L : Int) / 4) = false := by rw [bne_eq_false_iff_eq]; omega
  clear hL hwl
  have hwl' : ws.length = ws.length := rfl
  obtain ⟨m, hm⟩ : ∃ m, m = ws.length := ⟨_, rfl⟩
  rw [← hm] at hLn hne HLAW
  have HLn := Lib.hid hLn
  have hm24 : m ≤ 6 := by omega
  clear hLn hwl'
  go_wp2_with fail
  refine (HWI.out _ hBr).mono ?_
  rintro e w3 ⟨vw, rfl, hoW, hb3⟩
  obtain ⟨aw, cw, he, -, hlcw, -, habW, hbyw⟩ := hoW.byt (by omega) (fun i => Nat.lt_trans (hBl.out i) (by omega))
  subst he
  rw [← hm] at hlcw hbyw ⊢
  have HMM := Lib.hid hm
  clear hm
  have hR3 := hR.below (by simp) hb3
  have hBr3 := hBr.trans (hb3.mono (by simp))
  have r0 := hR3.cell 0
  have r1 := hR3.cell 1
  have r2 := hR3.cell 2
  have r3 := hR3.cell 3
  have r4 := hR3.cell 4
  have r5 := hR3.cell 5
  have r6 := hR3.cell 6
  simp only [List.getElem?_toArray, List.getElem?_cons_zero, List.getElem?_cons_succ] at r0 r1 r2 r3 r4 r5 r6
  go_wp2_with fail
  refine (HMV.out _ hBr3).mono ?_
  rintro e w4 ⟨rfl, hb4⟩
  clear r0 r1 r2 r3 r4 r5 r6
  have hR4 := hR3.below hR3.lt hb4
  have hBr4 := hBr3.trans (hb4.mono hBr3.size)
  have r0 := hR4.cell 0
  have r1 := hR4.cell 1
  have r2 := hR4.cell 2
  have r3 := hR4.cell 3
  have r4 := hR4.cell 4
  have r5 := hR4.cell 5
  have r6 := hR4.cell 6
  simp only [List.getElem?_toArray, List.getElem?_cons_zero, List.getElem?_cons_succ] at r0 r1 r2 r3 r4 r5 r6
  go_wp2_with fail
  refine (HTR.out _ hBr4).mono ?_
  rintro e w5 ⟨rfl, hb5⟩
  clear r0 r1 r2 r3 r4 r5 r6
  have hR5 := hR4.below hR4.lt hb5
  have hBr5 := hBr4.trans (hb5.mono hBr4.size)
  have hs34 : w3.heap.size ≤ w5.heap.size := Nat.le_trans hb4.size hb5.size
  have hby5 := (hbyw.below (Nat.le_refl _) hb4).below (Nat.le_refl _) hb5
  have hB5 := hB2.trans (hBr5.mono hB2.size)
  have r6 := hR5.cell 6
  simp only [List.getElem?_toArray, List.getElem?_cons_zero, List.getElem?_cons_succ] at r6
  clear hR hR3 hR4 hb3 hb4 hb5 hBr hBr3 hBr4 hbyw hoW
  go_wp2_with fail
  have hW := Row.new w5 43 #[.int .i64 0, .int .i64 0]
  have hR6 := hR5.alloc (.cells #[.int .i64 0, .int .i64 0] 43)
  have hby6 := hby5.below (Nat.le_refl _) ((Below.refl _ _).alloc (Nat.le_refl _) (.cells #[.int .i64 0, .int .i64 0] 43))
  have hB6 := hB5.alloc hB5.size (.cells #[.int .i64 0, .int .i64 0] 43)
  have hRw := hR5.lt
  have hN5 := hB5.size
  have hawb : ∀ ad, aw = some ad → ad.block ≠ w5.heap.size := fun ad h => by have := (habW ad h).2; have := hs34; omega
  clear hR5 hby5 hB5 r6 habW
  generalize hw6 : w5.alloc (.cells #[.int .i64 0, .int .i64 0] 43) = w6 at *
  clear hw6
  go_loopw [53] (fun i wr => ∃ k : Nat, k ≤ m ∧ i = .int .i64 (k : Int) ∧ Row wr w5.heap.size 43 #[.int .i64 (sideTo ws x.rc.d 0 k : Int), .int .i64 (sideTo ws x.rc.d 1 k : Int)] ∧ Kept (fun b => b ≠ w5.heap.size) w6 wr ∧ Below w.heap.size w wr) (fun i _ => m - (intOf i).toNat)
  case atStart => exact ⟨0, by omega, rfl, hW, Kept.refl _ _, hB6⟩
  case round =>
    obtain ⟨k, hk, rfl, hWr, hkp, hbl⟩ := hrel
    have hle0 := sideTo_le ws x.rc.d 0 k
    have hle1 := sideTo_le ws x.rc.d 1 k
    by_cases hlt : k < m
    · have hS0 := Lib.hid (sideTo_succ ws x.rc.d 0 k (by rw [← HMM.out]; exact hlt))
      have hS1 := Lib.hid (sideTo_succ ws x.rc.d 1 k (by rw [← HMM.out]; exact hlt))
      obtain ⟨b, off, rfl, hbs, hcs⟩ := (hby6.kept hawb hkp).at (by omega)
      have hck := hcs k hlt
      have hz4 := hBl.out k
      have r5 := (hR6.kept (by omega) hkp).cell 5
      have y0 := hWr.cell 0
      have y1 := hWr.cell 1
      have f0 := hWr.frozen 0
      have f1 := hWr.frozen 1
      simp at r5 y0 y1
      clear hcs
      generalize ws.getD k 0 = z at *
      generalize sideTo ws x.rc.d 0 k = S0 at *
      generalize sideTo ws x.rc.d 1 k = S1 at *
      generalize x.rc.d = dd at *
      rcases (show (z + dd) % 2 = 0 ∨ (z + dd) % 2 = 1 by omega) with hpz | hpz
      · rw [if_pos hpz] at hS0
        rw [if_neg (by omega)] at hS1
        have hpI : ((z : Int) + (dd : Int)) % 2 = 0 := by omega
        have hnew := hWr.set 0 (.int .i64 ((S0 : Int) + 1))
        go_wp2
        exact ⟨⟨k + 1, by omega, by go_num, by rw [hS0.out, hS1.out]; simpa using hnew, hkp.setCell (by simp) _, hbl.setCell (by simp; omega) _⟩, by simp [intOf]; omega⟩
      · rw [if_neg (by omega)] at hS0
        rw [if_pos hpz] at hS1
        have hpI : ((z : Int) + (dd : Int)) % 2 = 1 := by omega
        have hnew := hWr.set 1 (.int .i64 ((S1 : Int) + 1))
        go_wp2
        exact ⟨⟨k + 1, by omega, by go_num, by rw [hS0.out, hS1.out]; simpa using hnew, hkp.setCell (by simp) _, hbl.setCell (by simp; omega) _⟩, by simp [intOf]; omega⟩
    · have hke : k = m := by omega
      subst hke
      obtain ⟨q1, q2, q3, q4, q5⟩ := HLAW.out
      have y0 := hWr.cell 0
      have y1 := hWr.cell 1
      simp at y0 y1
      generalize sideTo ws x.rc.d 0 k = S0 at *
      generalize sideTo ws x.rc.d 1 k = S1 at *
      have w1' : IntKind.i64.wrap (C + D) = (k : Int) := by rw [IntKind.wrap_i64] <;> omega
      have w2' : IntKind.i64.wrap ((S0 : Int) - (A : Int)) = (S0 : Int) - (A : Int) := by rw [IntKind.wrap_i64]; omega
      have w3' : IntKind.i64.wrap ((S0 : Int) - (A : Int) + (B : Int)) = (S0 : Int) - (A : Int) + (B : Int) := by rw [IntKind.wrap_i64]; omega
      have HBL := Lib.hid hbl
      have hA4 : (A : Int) ≤ (S0 : Int) := by omega
      have hB4 : (B : Int) ≤ (S1 : Int) := by omega
      clear q1 HLAW hbl
      subst q2
      rcases q3 with hz | hz
      · subst hz
        try simp at w1' w2' w3'
        go_wp2
        go_ret
        exact ⟨rfl, HBL.out⟩
      · by_cases hA0 : A = 0
        · subst hA0
          subst hz
          try simp at w1' w2' w3'
          go_wp2
          go_ret
          exact ⟨rfl, HBL.out⟩
        · have hA0' : ((A : Int) == 0) = false := by rw [beq_eq_false_iff_ne]; omega
          subst hz
          try simp at w1' w2' w3'
          go_wp2
          go_ret
          exact ⟨rfl, HBL.out⟩
end Go.Proofs.Ytdlnilebnobllaa
