/- The body of finesselaw13.RevokeTurned over this seat's program. -/
import Derived.Test.YtdlnilebnobllaaRvDmP
import Derived.Test.YtdlnilebnobllaaRvTuP
import Derived.Test.YtdlnilebnobllaaRvAw
import Derived.Laws.StructEq
namespace Go.Proofs.Ytdlnilebnobllaa
open Go.RowKit Go.Shelf Go.Sort

set_option maxHeartbeats 2000000 in
set_option maxRecDepth 100000 in
theorem law_RevokeTurned (x : Sk) (ao : Option Addr) (lo co : Nat) (ap : Option Addr) (lp cp : Nat) (w : World) (ho : Byt w ao lo x.order) (hp : Byt w ap lp x.play)
    (hsz : x.size < 256) (htr : x.trumps < 256) (hde : x.decl < 256) :
    Calls Try.prog 8 #[.agg (x.cells ao lo co ap lp cp)] w fun e w' => e = .returned (.bool true) ∧ Below w.heap.size w w' := by
  have hn := x.n_le
  have HA := Lib.hid (show ∀ w1, Calls Try.prog 12 #[] w1 fun e w' => e = .returned (.bool true) ∧ Below w1.heap.size w1 w' from awake_true)
  have HM : Hid (∀ w1, Below w.heap.size w w1 → Calls Try.prog 17 #[.agg (x.cells ao lo co ap lp cp)] w1 fun e w' =>
      ∃ a cap, e = .returned (x.rc.v a (4 * x.n) cap) ∧ x.rc.ok (4 * x.n) cap ∧ Byt w' a (4 * x.n) x.rc.zs ∧ (∀ ad, a = some ad → w1.heap.size ≤ ad.block ∧ ad.block < w'.heap.size) ∧ OwnU w' w1.heap.size (.slice a (4 * x.n) cap) x.rc.zs ∧ Below w1.heap.size w1 w') :=
    fun w1 hb => law_made x ao lo co ap lp cp w1 (ho.below (Nat.le_refl _) hb) (hp.below (Nat.le_refl _) hb) hsz htr hde
  go_enter Try.func8, Try.ntmps8
  go_wp2_with fail
  have hB0 := (Below.refl w.heap.size w).alloc (Nat.le_refl _) (.cells (x.cells ao lo co ap lp cp) 36)
  have hX := Row.new w 36 (x.cells ao lo co ap lp cp)
  refine (HA.out _).mono ?_
  rintro e w1 ⟨rfl, hb1⟩
  have hB1 := hB0.trans (hb1.mono hB0.size)
  have hX1 := hX.below hX.lt hb1
  clear hX hB0 hb1
  have x0 := hX1.cell 0
  have x1 := hX1.cell 1
  have x2 := hX1.cell 2
  have x3 := hX1.cell 3
  have x4 := hX1.cell 4
  have x5 := hX1.cell 5
  simp only [List.getElem?_toArray, List.getElem?_cons_zero, List.getElem?_cons_succ] at x0 x1 x2 x3 x4 x5
  go_wp2_with fail
  refine (HM.out w1 hB1).mono ?_
  rintro e w2 ⟨a, cap, rfl, hok, hz, hab, how, hb2⟩
  have hB2 := hB1.trans (hb2.mono hB1.size)
  have hR := Row.new w2 27 (x.rc.cells a (4 * x.n) cap)
  have hBr : Below w2.heap.size w2 (w2.alloc (.cells (x.rc.cells a (4 * x.n) cap) 27)) := (Below.refl _ _).alloc (Nat.le_refl _) _
  have hzB : ∀ w3, Below w2.heap.size w2 w3 → Byt w3 a (4 * x.n) x.rc.zs ∧ ∀ ad, a = some ad → ad.block < w3.heap.size := fun w3 h => ⟨hz.below (Nat.le_refl _) h, fun ad he => Nat.lt_of_lt_of_le (hab ad he).2 h.size⟩
  clear x0 x1 x2 x3 x4 x5 hX1 HA HM
  obtain ⟨d', hd'⟩ : ∃ d', d' = (x.rc.d + 1) % 4 := ⟨_, rfl⟩
  have hrd3 : x.rc.d ≤ 3 := dealt_d (made_dealt x)
  have hdI : ((x.rc.d : Int) + 1) % 4 = (d' : Int) := by omega
  have hokT : x.rc.turn.ok (4 * x.n) cap := ⟨fun j => hok.h _, hok.t, by show (x.rc.d + 1) % 4 < 256; omega, hok.lc, hok.mx⟩
  have HTV : Hid (x.rc.turn.v a (4 * x.n) cap = .agg #[.int .u64 (x.rc.h 3 : Int), .int .u64 (x.rc.h 0 : Int), .int .u64 (x.rc.h 1 : Int), .int .u64 (x.rc.h 2 : Int), .int .u8 (x.rc.t : Int), .int .u8 (d' : Int), .slice a (4 * x.n) cap]) := by
    subst hd'
    exact Lib.hid rfl
  have HF : Hid (∀ w3, Below w2.heap.size w2 w3 → Calls Try.prog 21 #[x.rc.v a (4 * x.n) cap] w3 fun e w' => ∃ v, e = .returned (.tuple #[v, .int .i64 0]) ∧ OwnV w' w3.heap.size v (findAll x.rc.rnds) ∧ Below w3.heap.size w3 w') :=
    fun w3 h => rev_find_ok _ _ _ _ w3 hok (hzB w3 h).1 (hzB w3 h).2 (made_dealt x) (made_right x) (by omega)
  have HF2 : Hid (∀ w3, Below w2.heap.size w2 w3 → Calls Try.prog 21 #[x.rc.turn.v a (4 * x.n) cap] w3 fun e w' => ∃ v, e = .returned (.tuple #[v, .int .i64 0]) ∧ OwnV w' w3.heap.size v ((findAll x.rc.rnds).map Rvk.turn) ∧ Below w3.heap.size w3 w') :=
    fun w3 h => by
      have := rev_find_ok x.rc.turn _ _ _ w3 hokT (hzB w3 h).1 (hzB w3 h).2 (turn_dealt x) (turn_right x) (by omega)
      rw [turn_find] at this
      exact this
  obtain ⟨A, B, hmv, hA24, hB24, -⟩ := made_dummy x
  have HMV : Hid (∀ w3, Below w2.heap.size w2 w3 → Calls Try.prog 19 #[x.rc.v a (4 * x.n) cap] w3 fun e w' => e = .returned (.tuple #[.int .i64 (A : Int), .int .i64 (B : Int), .int .i64 0]) ∧ Below w3.heap.size w3 w') :=
    fun w3 h => by
      have := rev_moved _ _ _ _ w3 hok (hzB w3 h).1 (hzB w3 h).2 (by omega)
      rw [hmv] at this
      exact this
  have HMV2 : Hid (∀ w3, Below w2.heap.size w2 w3 → Calls Try.prog 19 #[x.rc.turn.v a (4 * x.n) cap] w3 fun e w' => e = .returned (.tuple #[.int .i64 (A : Int), .int .i64 (B : Int), .int .i64 0]) ∧ Below w3.heap.size w3 w') :=
    fun w3 h => by
      have := rev_moved x.rc.turn _ _ _ w3 hokT (hzB w3 h).1 (hzB w3 h).2 (by omega)
      rw [turn_moved, hmv] at this
      exact this
  rw [HTV.out] at HF2 HMV2
  have hll : (findAll x.rc.rnds).length ≤ 24 := by have h1 := findAll_len x.rc.rnds; have h2 := (made_rnds x).1; omega
  have HV4 := Lib.hid (find_seat (made_dealt x))
  clear hmv hzB HTV hokT hd' hok how hab hz
  generalize findAll x.rc.rnds = l at *
  have hml : (l.map Rvk.turn).length = l.length := by simp
  obtain ⟨M, hM⟩ : ∃ M, M = l.length := ⟨_, rfl⟩
  have HM := Lib.hid hM
  have HML := Lib.hid (hml.trans hM.symm)
  have hM24 : M ≤ 24 := by omega
  clear hM hml hll
  go_wp2_with fail
  refine wp_loop_rounds 5 ?_
  rw [rounds_succ]
  go_wp2
  rw [rounds_succ]
  go_wp2
  rw [rounds_succ]
  go_wp2
  rw [rounds_succ]
  go_wp2
  rw [rounds_succ]
  go_wp2_with fail
  have hT := Row.new (w2.alloc (.cells (x.rc.cells a (4 * x.n) cap) 27)) 27 #[.int .u64 (x.rc.h 3 : Int), .int .u64 (x.rc.h 0 : Int), .int .u64 (x.rc.h 1 : Int), .int .u64 (x.rc.h 2 : Int), .int .u8 (x.rc.t : Int), .int .u8 (d' : Int), .slice a (4 * x.n) cap]
  have hRt := hR.alloc (.cells #[.int .u64 (x.rc.h 3 : Int), .int .u64 (x.rc.h 0 : Int), .int .u64 (x.rc.h 1 : Int), .int .u64 (x.rc.h 2 : Int), .int .u8 (x.rc.t : Int), .int .u8 (d' : Int), .slice a (4 * x.n) cap] 27)
  have hBt := hBr.alloc (by simp) (.cells #[.int .u64 (x.rc.h 3 : Int), .int .u64 (x.rc.h 0 : Int), .int .u64 (x.rc.h 1 : Int), .int .u64 (x.rc.h 2 : Int), .int .u8 (x.rc.t : Int), .int .u8 (d' : Int), .slice a (4 * x.n) cap] 27)
  simp only [World.size_alloc] at hT
  refine (HF.out _ hBt).mono ?_
  rintro e w3 ⟨v, rfl, hoV, hb3⟩
  obtain ⟨al, cl, rfl, hne⟩ := hoV.slice
  have HNE := Lib.hid hne
  clear hne
  have hs3 := hb3.size
  simp only [World.size_alloc] at hs3
  have hR3 := hRt.below (by simp; omega) hb3
  have hT3 := hT.below (by simp) hb3
  have hB3 := hBt.trans (hb3.mono (by simp; omega))
  have q0 := hT3.cell 0
  have q1 := hT3.cell 1
  have q2 := hT3.cell 2
  have q3 := hT3.cell 3
  have q4 := hT3.cell 4
  have q5 := hT3.cell 5
  have q6 := hT3.cell 6
  simp only [List.getElem?_toArray, List.getElem?_cons_zero, List.getElem?_cons_succ] at q0 q1 q2 q3 q4 q5 q6
  clear hT hRt hR hBr hBt hb3
  go_wp2_with fail
  refine (HF2.out _ hB3).mono ?_
  rintro e w4 ⟨v, rfl, hoU, hb4⟩
  obtain ⟨au, cu, rfl, hnu⟩ := hoU.slice
  rw [HML.out]
  rw [← HM.out]
  have HNU := Lib.hid hnu
  clear hnu q0 q1 q2 q3 q4 q5 q6
  have hR4 := hR3.below hR3.lt hb4
  have hT4 := hT3.below hT3.lt hb4
  have hB4 := hB3.trans (hb4.mono hB3.size)
  have hoV4 := hoV.below hb4
  clear hb4 hR3 hT3 hB3 hoV hs3
  have r0 := hR4.cell 0
  have r1 := hR4.cell 1
  have r2 := hR4.cell 2
  have r3 := hR4.cell 3
  have r4 := hR4.cell 4
  have r5 := hR4.cell 5
  have r6 := hR4.cell 6
  simp only [List.getElem?_toArray, List.getElem?_cons_zero, List.getElem?_cons_succ] at r0 r1 r2 r3 r4 r5 r6
  go_wp2_with fail
  refine (HMV.out _ hB4).mono ?_
  rintro e w5 ⟨rfl, hb5⟩
  clear r0 r1 r2 r3 r4 r5 r6
  have hT5 := hT4.below hT4.lt hb5
  have hB5 := hB4.trans (hb5.mono hB4.size)
  have hoV5 := hoV4.below hb5
  have hoU5 := hoU.below hb5
  clear hb5 hR4 hT4 hB4 hoV4 hoU
  have q0 := hT5.cell 0
  have q1 := hT5.cell 1
  have q2 := hT5.cell 2
  have q3 := hT5.cell 3
  have q4 := hT5.cell 4
  have q5 := hT5.cell 5
  have q6 := hT5.cell 6
  simp only [List.getElem?_toArray, List.getElem?_cons_zero, List.getElem?_cons_succ] at q0 q1 q2 q3 q4 q5 q6
  go_wp2_with fail
  refine (HMV2.out _ hB5).mono ?_
  rintro e w6 ⟨rfl, hb6⟩
  clear q0 q1 q2 q3 q4 q5 q6
  have hB6 := hB2.trans ((hB5.trans (hb6.mono hB5.size)).mono hB2.size)
  have hoV6 := hoV5.below hb6
  have hoU6 := hoU5.below hb6
  clear hb6 hT5 hB5 hoV5 hoU5 HF HF2 HMV HMV2
  go_wp2_with fail
  go_loopw [90] (fun i wr => ∃ k : Nat, k ≤ M ∧ i = .int .i64 (k : Int) ∧ Below w6.heap.size w6 wr) (fun i _ => M - (intOf i).toNat)
  case atStart => exact ⟨0, by omega, rfl, Below.refl _ _⟩
  case round =>
    obtain ⟨k, hk, rfl, hb⟩ := hrel
    by_cases hlt : k < M
    · have hkl : k < l.length := by rw [← HM.out]; exact hlt
      obtain ⟨g, hg⟩ := HNE.out (by intro e; rw [e] at hkl; simp at hkl)
      subst hg
      obtain ⟨gu, hgu⟩ := HNU.out (by intro e; have := congrArg List.length e; rw [List.length_map] at this; simp at this; rw [this] at hkl; simp at hkl)
      subst hgu
      obtain ⟨c0, c1, c2, c3, c4⟩ := ownV_cells (hoV6.below hb) k (List.getElem?_eq_getElem hkl)
      have hku : (l.map Rvk.turn)[k]? = some l[k].turn := by rw [List.getElem?_map, List.getElem?_eq_getElem hkl]; rfl
      have hv4 := HV4.out l[k] (List.getElem_mem _)
      generalize l[k] = y at *
      obtain ⟨ys, hys⟩ : ∃ ys, ys = (y.seat + 1) % 4 := ⟨_, rfl⟩
      have hysI : ((y.seat : Int) + 1) % 4 = (ys : Int) := by omega
      have hou := ((hoU6.below hb).alloc (.cells #[.int .i64 (y.trick : Int), .int .u8 (ys : Int), .int .u8 (y.suit : Int), .int .u8 (y.card : Int), .bool y.est] 50))
      obtain ⟨d0, d1, d2, d3, d4⟩ := ownV_cells hou k hku
      have hu1 : (y.turn.seat : Int) = (ys : Int) := by rw [hys]; rfl
      rw [hu1] at d1
      have d0' : _ = some (Value.int .i64 (y.trick : Int)) := d0
      have d2' : _ = some (Value.int .u8 (y.suit : Int)) := d2
      have d3' : _ = some (Value.int .u8 (y.card : Int)) := d3
      have d4' : _ = some (Value.bool y.est) := d4
      have hW := Row.new wr 50 #[.int .i64 (y.trick : Int), .int .u8 (ys : Int), .int .u8 (y.suit : Int), .int .u8 (y.card : Int), .bool y.est]
      have e0 := hW.cell 0
      have e1 := hW.cell 1
      have e2 := hW.cell 2
      have e3 := hW.cell 3
      have e4 := hW.cell 4
      simp only [List.getElem?_toArray, List.getElem?_cons_zero, List.getElem?_cons_succ] at e0 e1 e2 e3 e4
      have rc0 := fun dd os => cell_regrown d0' dd os
      have rc1 := fun dd os => cell_regrown d1 dd os
      have rc2 := fun dd os => cell_regrown d2' dd os
      have rc3 := fun dd os => cell_regrown d3' dd os
      have rc4 := fun dd os => cell_regrown d4' dd os
      have rd0 := fun dd os => cell_regrown e0 dd os
      have rd1 := fun dd os => cell_regrown e1 dd os
      have rd2 := fun dd os => cell_regrown e2 dd os
      have rd3 := fun dd os => cell_regrown e3 dd os
      have rd4 := fun dd os => cell_regrown e4 dd os
      have hbA := hb.alloc hb.size (.cells #[.int .i64 (y.trick : Int), .int .u8 (ys : Int), .int .u8 (y.suit : Int), .int .u8 (y.card : Int), .bool y.est] 50)
      clear hkl hku hys hu1
      go_wp2
      generalize wr.alloc (.cells #[.int .i64 (y.trick : Int), .int .u8 (ys : Int), .int .u8 (y.suit : Int), .int .u8 (y.card : Int), .bool y.est] 50) = w8 at *
      refine wp_region_quiet_below (by kernel_rfl) (by kernel_rfl) ?_
      repeat (quiet_step (fail))
      refine wpQuiet_nil ?_
      rintro _ ⟨p, rfl⟩
      clear rc0 rc1 rc2 rc3 rc4 rd0 rd1 rd2 rd3 rd4
      have hb8 := below_regrown w8 p.d p.os
      generalize grow (redrawn w8 p.d) p.os = w9 at *
      have hb9 := hbA.trans (hb8.mono hbA.size)
      go_wp2
      go_roundw
      case rel => exact ⟨k + 1, by omega, by go_num, hb9⟩
      case measure => simp [intOf]; omega
    · go_wp2
      go_ret
      exact ⟨rfl, hB6.trans (hb.mono hB6.size)⟩
end Go.Proofs.Ytdlnilebnobllaa
