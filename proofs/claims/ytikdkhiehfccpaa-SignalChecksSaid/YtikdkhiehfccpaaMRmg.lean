/- RmG, RmH in one text. -/
import Derived.Test.YtikdkhiehfccpaaMRmd

/- The reference's rules and claims, a call's own, read; the reference's Of; finesselaw41.few. -/
namespace Go.Proofs.Ytikdkhiehfccpaa
open Go.RowKit Go.Sort Go.Shelf Cnt

/-- the cells of an own slice -/
theorem OwnK.at {K : Kd} {w : World} {base : Nat} {v : Value} {ps : List K.P} (h : OwnK K w base v ps) : (v = .slice none 0 0 ∧ ps = []) ∨ ∃ g cap, v = .slice (some ⟨g, 0, none⟩) ps.length cap ∧ base ≤ g ∧ g < w.heap.size ∧ ps.length ≤ cap ∧ ∀ i p j, ps[i]? = some p → j < K.k → w.cell? ⟨g, 0 + i * K.k + j, none⟩ = (K.e p)[j]? := by
  rcases h.own.form with ⟨hv, he⟩ | ⟨g, cap, hv, hg, hgs, hlc, _⟩
  · exact .inl ⟨hv, he⟩
  · refine .inr ⟨g, cap, hv, hg, hgs, hlc, fun i p j hp hj => ?_⟩
    have h1 := flatK_get K.e_len ps i j p hp hj
    have hi : i < ps.length := (List.getElem?_eq_some_iff.1 hp).1
    have hlt : i * K.k + j < ps.length * K.k := by
      have : (i + 1) * K.k ≤ ps.length * K.k := Nat.mul_le_mul_right _ (by omega)
      rw [Nat.succ_mul] at this
      omega
    have h2 := World.ownsRow.cellAt (hv ▸ h.own.2) (i * K.k + j) hlt
    rw [Nat.zero_add, h2, h1]
theorem Kd.of_get {K : Kd} {ps : List K.P} {i : Nat} {x : K.α} (h : (K.of ps)[i]? = some x) : ∃ p, ps[i]? = some p ∧ p.1 = x := by
  unfold Kd.of at h
  rw [List.getElem?_map] at h
  exact Option.map_eq_some_iff.1 h
theorem OwnK.rls {w : World} {base : Nat} {v : Value} {ps : List KRr.P} {xs : List Rl} (h : OwnK KRr w base v ps) (he : KRr.of ps = xs) (hl : ps.length ≤ 1000) : ∃ a c, v = .slice a xs.length c ∧ Rls w a xs.length xs ∧ xs.length ≤ c ∧ xs.length = ps.length := by
  have hlen : xs.length = ps.length := by rw [← he]; exact List.length_map ..
  rcases h.at with ⟨hv, h0⟩ | ⟨g, cap, hv, hg, hgs, hlc, hcell⟩
  · subst h0
    have : xs = [] := List.eq_nil_of_length_eq_zero hlen
    subst this
    exact ⟨none, 0, hv, Rls.nil w, Nat.le_refl _, rfl⟩
  · rw [hlen]
    refine ⟨_, cap, hv, ⟨hlen, by omega, .inr ⟨g, 0, rfl, hgs, fun i x hx => ?_⟩⟩, hlc, rfl⟩
    rw [← he] at hx
    obtain ⟨p, hp, hpx⟩ := Kd.of_get (K := KRr) hx
    have hrg := h.rg p (List.mem_of_getElem? hp)
    subst hpx
    exact ⟨p.2.1, p.2.2, hcell i p 0 hp (by decide), hcell i p 1 hp (by decide), hrg⟩
theorem OwnK.cms {w : World} {base : Nat} {v : Value} {ps : List KCr.P} {xs : List Cm} (h : OwnK KCr w base v ps) (he : KCr.of ps = xs) (hl : ps.length ≤ 1000) : ∃ a c, v = .slice a xs.length c ∧ Cms w a xs.length xs ∧ xs.length ≤ c ∧ xs.length = ps.length := by
  have hlen : xs.length = ps.length := by rw [← he]; exact List.length_map ..
  rcases h.at with ⟨hv, h0⟩ | ⟨g, cap, hv, hg, hgs, hlc, hcell⟩
  · subst h0
    have : xs = [] := List.eq_nil_of_length_eq_zero hlen
    subst this
    exact ⟨none, 0, hv, Cms.nil w, Nat.le_refl _, rfl⟩
  · rw [hlen]
    refine ⟨_, cap, hv, ⟨hlen, by omega, .inr ⟨g, 0, rfl, hgs, fun i x hx => ?_⟩⟩, hlc, rfl⟩
    rw [← he] at hx
    obtain ⟨p, hp, hpx⟩ := Kd.of_get (K := KCr) hx
    have hrg := h.rg p (List.mem_of_getElem? hp)
    subst hpx
    exact ⟨p.2.1, p.2.2, hcell i p 0 hp (by decide), hcell i p 1 hp (by decide), hcell i p 2 hp (by decide), hcell i p 3 hp (by decide), hrg⟩
set_option maxHeartbeats 1000000 in
theorem rm_Of (a : Option Addr) (la ca : Nat) (ls : List Rl) (h : Nat) (hh : W64 h) (w : World) (ha : Rls w a la ls) :
    Calls Try.prog 33 #[.slice a la ca, .int .u64 (h : Int)] w fun e w' => e = .returned (.int .i64 (ofV ls h)) ∧ Below w.heap.size w w' := by
  have HA := Lib.hid ha
  have hsm := ha.small
  have HH := Lib.hid hh
  clear ha hh
  go_enter Try.func33, Try.ntmps33
  go_wp2_with fail
  go_loopw [5] (fun i wr => ∃ (k : Nat), k ≤ la ∧ i = .int .i64 (k : Int) ∧ (ls.take k).all (fun y => !fitsV y.rs h) = true ∧ Below w.heap.size w wr) (fun i _ => la - (intOf i).toNat)
  case atStart => exact ⟨0, by omega, rfl, rfl, Below.refl _ _⟩
  case round =>
    obtain ⟨k, hk, rfl, hno, hB⟩ := hrel
    by_cases hlt : k < la
    · obtain ⟨b, off, x, ai, ci, rfl, hx, c0, c1, hR⟩ := (HA.out.below (Nat.le_refl _) hB).at hlt
      have hd : decide ((k : Int) < (la : Int)) = true := by simp; omega
      have hki : (k : Int) < (la : Int) := by omega
      have HX := Lib.hid hx
      have HNO := Lib.hid hno
      have HR1 := Lib.hid hR
      have HB1 := Lib.hid hB
      have HC := Lib.hid fun w' (h : Below wr.heap.size wr w') => ((HA.out.below (Nat.le_refl _) HB1.out).below (Nat.le_refl _) h).at hlt
      clear hx hB hR hno
      go_wp2_with fail
      refine (rf_Fits ai x.rs.length ci x.rs h HH.out _ HR1.out.rgs).mono ?_
      rintro e w2 ⟨rfl, hb2⟩
      obtain ⟨b', off', x', ai', ci', hb', hx', c0', c1', -⟩ := HC.out w2 hb2
      obtain ⟨rfl, rfl⟩ : b = b' ∧ off = off' := by simpa using hb'
      obtain rfl : x = x' := by rw [HX.out] at hx'; exact Option.some.inj hx'
      have HB2 := Lib.hid (HB1.out.trans (hb2.mono HB1.out.size))
      clear hb2 HB1 HR1 HC c0 c1 c0' hx' hb'
      cases hf : fitsV x.rs h
      · have HF := Lib.hid (no_succ HX.out HNO.out hf)
        clear hf
        go_wp2_with fail
        exact ⟨⟨k + 1, by omega, by simp, HF.out, HB2.out⟩, by simp [intOf]; omega⟩
      · have HF := Lib.hid (of_take HX.out HNO.out hf)
        clear hf
        go_wp2_with fail
        go_ret
        exact ⟨by rw [HF.out]; rfl, HB2.out⟩
    · obtain rfl : k = la := by omega
      have hd : decide ((k : Int) < (k : Int)) = false := by simp
      have HT : Hid (ofV ls h = 0) := Lib.hid (of_none (by rw [List.take_of_length_le (by have := HA.out.length; omega)] at hno; exact hno))
      have HB := Lib.hid hB
      clear hB hno
      go_wp2_with fail
      go_ret
      exact ⟨by rw [HT.out]; rfl, HB.out⟩
def fewV (ls : List Rl) : Bool := ls.all (fun x => decide (x.rs.length ≤ 25)) && decide (ls.length ≤ 25)
set_option maxHeartbeats 1000000 in
theorem law41_few (a : Option Addr) (la ca : Nat) (ls : List Rl) (w : World) (ha : Rls w a la ls) :
    Calls Try.prog 10 #[.slice a la ca] w fun e w' => e = .returned (.bool (fewV ls)) ∧ Below w.heap.size w w' := by
  have HA := Lib.hid ha
  have hsm := ha.small
  clear ha
  go_enter Try.func10, Try.ntmps10
  go_wp2_with fail
  go_loopw [4, 7] (fun _ i wr => ∃ (k : Nat), k ≤ la ∧ i = .int .i64 (k : Int) ∧ (ls.take k).all (fun x => decide (x.rs.length ≤ 25)) = true ∧ Below w.heap.size w wr) (fun _ i _ => la - (intOf i).toNat)
  case atStart => exact ⟨0, by omega, rfl, rfl, Below.refl _ _⟩
  case round =>
    obtain ⟨k, hk, rfl, hno, hB⟩ := hrel
    by_cases hlt : k < la
    · obtain ⟨b, off, x, ai, ci, rfl, hx, c0, c1, hR⟩ := (HA.out.below (Nat.le_refl _) hB).at hlt
      have hd : decide ((k : Int) < (la : Int)) = true := by simp; omega
      have hsl := hR.rgs.small
      have HX := Lib.hid hx
      have HNO := Lib.hid hno
      have hw : Below wr.heap.size wr (wr.alloc (.cells (x.arr ai ci) 63)) := (Below.refl _ _).alloc (Nat.le_refl _) _
      have HB1 := Lib.hid (hB.trans (hw.mono hB.size))
      have HEX : Hid (∀ m, x.rs.length = m → m ≤ 25 → (ls.take (k + 1)).all (fun x => decide (x.rs.length ≤ 25)) = true) := Lib.hid fun m e h => by
        subst e
        rw [take_snoc HX.out, List.all_append, HNO.out]; simp [h]
      have HNX : Hid (∀ m, x.rs.length = m → 25 < m → fewV ls = false) := Lib.hid fun m e h => by
        subst e
        unfold fewV
        have : ls.all (fun x => decide (x.rs.length ≤ 25)) = false := by
          rw [List.all_eq_false]
          exact ⟨x, List.mem_of_getElem? HX.out, by simp; omega⟩
        rw [this]; rfl
      clear hx hB hR hw hno HNO
      obtain ⟨m, hm⟩ : ∃ m, x.rs.length = m := ⟨_, rfl⟩
      have HEX := Lib.hid (HEX.out m hm)
      have HNX := Lib.hid (HNX.out m hm)
      have hww : Hid (x.arr ai ci = #[.slice ai m ci, .int .i64 x.s]) := Lib.hid (by unfold Rl.arr; rw [hm])
      rw [hww.out] at HB1
      rw [hm] at c0 hsl
      clear hm
      by_cases h25 : 25 < m
      · have hd2 : decide ((25 : Int) < (m : Int)) = true := by simp; omega
        have HF := Lib.hid (HNX.out h25)
        go_wp2_with fail
        go_ret
        exact ⟨by rw [HF.out]; rfl, HB1.out⟩
      · have hd2 : decide ((25 : Int) < (m : Int)) = false := by simp; omega
        have HF := Lib.hid (HEX.out (by omega))
        go_wp2_with fail
        exact ⟨⟨k + 1, by omega, by simp, HF.out, HB1.out⟩, by simp [intOf]; omega⟩
    · obtain rfl : k = la := by omega
      have hd : decide ((k : Int) < (k : Int)) = false := by simp
      have HLn := Lib.hid HA.out.length
      have HT : Hid (fewV ls = decide (k ≤ 25)) := Lib.hid (by
        unfold fewV
        rw [List.take_of_length_le (by have := HA.out.length; omega)] at hno
        rw [hno, HLn.out]; rfl)
      have HB := Lib.hid hB
      clear hB hno
      by_cases h25 : k ≤ 25
      · have hd2 : decide ((k : Int) ≤ 25) = true := by simp; omega
        rw [decide_eq_true h25] at HT
        go_wp2_with fail
        go_ret
        exact ⟨by rw [HT.out]; rfl, HB.out⟩
      · have hd2 : decide ((k : Int) ≤ 25) = false := by simp; omega
        rw [decide_eq_false h25] at HT
        go_wp2_with fail
        go_ret
        exact ⟨by rw [HT.out]; rfl, HB.out⟩
end Go.Proofs.Ytikdkhiehfccpaa

/- finesselaw41.kept over this seat's program. -/
namespace Go.Proofs.Ytikdkhiehfccpaa
open Go.RowKit Go.Sort Go.Shelf Cnt

theorem Rls.len_small {w : World} {a : Option Addr} {len : Nat} {ls : List Rl} (h : Rls w a len ls) {k : Nat} {x : Rl} (hx : ls[k]? = some x) : x.rs.length ≤ 14073748835123 := by
  rcases h.cells with h0 | ⟨b, off, ha, _, hc⟩
  · have := (List.getElem?_eq_some_iff.1 hx).1
    have := h.length
    omega
  · obtain ⟨ai, ci, _, _, h3⟩ := hc k x hx
    exact h3.rgs.small
/-- the k-th rule, in this world and later ones -/
theorem Rls.atB {w : World} {a : Option Addr} {len : Nat} {ls : List Rl} (h : Rls w a len ls) {k : Nat} (hk : k < len) :
    ∃ b off x ai ci, a = some ⟨b, off, none⟩ ∧ ls[k]? = some x ∧ ∀ w', Below w.heap.size w w' → w'.cell? ⟨b, off + k * 2, none⟩ = some (.slice ai x.rs.length ci) ∧ w'.cell? ⟨b, off + k * 2 + 1, none⟩ = some (.int .i64 x.s) ∧ RgC w' ai ci x.rs := by
  rcases h.cells with h0 | ⟨b, off, ha, hlt, hc⟩
  · omega
  · have hx : ls[k]? = some (ls[k]'(by have := h.length; omega)) := List.getElem?_eq_getElem _
    obtain ⟨ai, ci, h1, h2, h3⟩ := hc k _ hx
    exact ⟨b, off, _, ai, ci, ha, hx, fun w' hb => ⟨(hb.cell (p := ⟨b, _, none⟩) hlt).trans h1, (hb.cell (p := ⟨b, _, none⟩) hlt).trans h2, h3.below hb⟩⟩
set_option maxHeartbeats 4000000 in
theorem law41_kept (a : Option Addr) (la ca : Nat) (ls : List Rl) (b : Option Addr) (cb : Nat) (w : World) (ha : Rls w a la ls) (hla : la ≤ 1000) (h25 : ∀ x ∈ ls, x.rs.length ≤ 25) (hb : Rls w b la ls) :
    Calls Try.prog 18 #[.slice a la ca, .slice b la cb] w fun e w' => e = .returned (.bool true) ∧ Below w.heap.size w w' := by
  have HA := Lib.hid ha
  have HBb := Lib.hid hb
  have H25 := Lib.hid h25
  have HLn := Lib.hid ha.length
  clear ha hb h25
  go_enter Try.func18, Try.ntmps18
  go_wp2_with fail
  refine (law41_rules a la ca ls _ HA.out hla H25.out).mono ?_
  rintro e w1 ⟨⟨v, ps, rfl, hO, hps⟩, hb1⟩
  have hpl : ps.length = la := by
    have := congrArg List.length hps
    unfold Kd.of at this
    rw [List.length_map] at this
    exact this.trans HLn.out
  obtain ⟨a9, c9, rfl, hR, -, -⟩ := hO.rls hps (by omega)
  rw [HLn.out] at hR ⊢
  have HB1 := Lib.hid hb1
  have HBb1 := Lib.hid (HBb.out.below (Nat.le_refl _) hb1)
  have HR1 := Lib.hid hR
  clear hO hps hpl hb1 hR HBb HA
  go_wp2_with fail
  go_loopw [5, 6, 7, 11] (fun _ _ _ i wr => ∃ (k : Nat), k ≤ la ∧ i = .int .i64 (k : Int) ∧ Below w1.heap.size w1 wr) (fun _ _ _ i _ => la - (intOf i).toNat)
  case atStart => exact ⟨0, by omega, rfl, Below.refl _ _⟩
  case round =>
    obtain ⟨k, hk, rfl, hB⟩ := hrel
    by_cases hlt : k < la
    · obtain ⟨b9, off9, x, a1, c1, rfl, hx, P⟩ := HR1.out.atB hlt
      obtain ⟨bb, offb, x', a2, c2, rfl, hx', Q⟩ := HBb1.out.atB hlt
      obtain rfl : x = x' := by rw [hx] at hx'; exact Option.some.inj hx'
      have hd : decide ((k : Int) < (la : Int)) = true := by simp; omega
      have hki : (k : Int) < (la : Int) := by omega
      have hsl := (P _ (Below.refl _ _)).2.2.rgs.small
      have HP := Lib.hid P
      have HQ := Lib.hid Q
      have hw : Below wr.heap.size wr (wr.alloc (.cells #[.slice a1 x.rs.length c1, .int .i64 x.s] 92)) := (Below.refl _ _).alloc (Nat.le_refl _) _
      have HRW := Lib.hid (Row.new wr 92 #[.slice a1 x.rs.length c1, .int .i64 x.s])
      have HB2 := Lib.hid (hB.trans (hw.mono hB.size))
      obtain ⟨p0, p1, -⟩ := P wr hB
      clear hx hx' P Q hw hB
      go_upto_region 4 with fail
      clear p0 p1
      generalize (wr.alloc (.cells #[.slice a1 x.rs.length c1, .int .i64 x.s] 92)) = W2 at *
      generalize wr.heap.size = bx at *
      obtain ⟨q0, q1, -⟩ := HQ.out W2 HB2.out
      have r0 := HRW.out.cell 0
      have r1 := HRW.out.cell 1
      simp only [List.getElem?_toArray, List.getElem?_cons_zero, List.getElem?_cons_succ] at r0 r1
      have f0 := fun dd os => cell_regrown q0 dd os
      have f1 := fun dd os => cell_regrown q1 dd os
      have f2 := fun dd os => cell_regrown r0 dd os
      have f3 := fun dd os => cell_regrown r1 dd os
      have hs : (x.s != x.s) = false := by simp
      have hm : ((x.rs.length : Int) != (x.rs.length : Int)) = false := by simp
      refine wp_region_quiet_below (by kernel_rfl) (by kernel_rfl) ?_
      repeat (first | go_big_quiet_step (fail) | quiet_step (fail))
      refine wpQuiet_nil ?_
      rintro _ ⟨q, rfl⟩
      have hb := below_regrown W2 q.d q.os
      have HB3 := Lib.hid (HB2.out.trans (hb.mono HB2.out.size))
      have HRW3 := Lib.hid (HRW.out.later hb)
      generalize grow (redrawn W2 q.d) q.os = W3 at *
      clear hb q0 q1 r0 r1 f0 f1 f2 f3 HB2 HRW
      have r0 := HRW3.out.cell 0
      simp only [List.getElem?_toArray, List.getElem?_cons_zero] at r0
      go_wp2_with fail
      go_loopw [7, 39] (fun _ i wr => ∃ (j : Nat), j ≤ x.rs.length ∧ i = .int .i64 (j : Int) ∧ Below W3.heap.size W3 wr) (fun _ i _ => x.rs.length - (intOf i).toNat)
      case atStart => exact ⟨0, by omega, rfl, Below.refl _ _⟩
      case round =>
        clear r0
        obtain ⟨j, hj, rfl, hB⟩ := hrel
        have HB4 := Lib.hid (HB3.out.trans (hB.mono HB3.out.size))
        have HB := Lib.hid hB
        clear hB
        by_cases hlj : j < x.rs.length
        · have hdj : decide ((j : Int) < (x.rs.length : Int)) = true := by simp; omega
          have hji : (j : Int) < (x.rs.length : Int) := by omega
          have r0 := (HRW3.out.later HB.out).cell 0
          simp only [List.getElem?_toArray, List.getElem?_cons_zero] at r0
          obtain ⟨q0, -, HY⟩ := HQ.out _ HB4.out
          obtain ⟨-, -, HX⟩ := HP.out _ HB4.out
          obtain ⟨ba, offa, r, rfl, hbl, hr, c0, c1, c2, c3, c4, c5, c6, c7, c8, c9⟩ := HX.rgs.ten hlj
          obtain ⟨bd, offd, r', rfl, hbl', hr', e0, e1, e2, e3, e4, e5, e6, e7, e8, e9⟩ := HY.rgs.ten hlj
          obtain rfl : r = r' := by rw [hr] at hr'; exact Option.some.inj hr'
          have f0 := fun dd os => cell_regrown c0 dd os
          have f1 := fun dd os => cell_regrown c1 dd os
          have f2 := fun dd os => cell_regrown c2 dd os
          have f3 := fun dd os => cell_regrown c3 dd os
          have f4 := fun dd os => cell_regrown c4 dd os
          have f5 := fun dd os => cell_regrown c5 dd os
          have f6 := fun dd os => cell_regrown c6 dd os
          have f7 := fun dd os => cell_regrown c7 dd os
          have f8 := fun dd os => cell_regrown c8 dd os
          have f9 := fun dd os => cell_regrown c9 dd os
          have g0 := fun dd os => cell_regrown e0 dd os
          have g1 := fun dd os => cell_regrown e1 dd os
          have g2 := fun dd os => cell_regrown e2 dd os
          have g3 := fun dd os => cell_regrown e3 dd os
          have g4 := fun dd os => cell_regrown e4 dd os
          have g5 := fun dd os => cell_regrown e5 dd os
          have g6 := fun dd os => cell_regrown e6 dd os
          have g7 := fun dd os => cell_regrown e7 dd os
          have g8 := fun dd os => cell_regrown e8 dd os
          have g9 := fun dd os => cell_regrown e9 dd os
          have k0 := fun dd os => cell_regrown r0 dd os
          have k1 := fun dd os => cell_regrown q0 dd os
          have HEQ := fun w' => rt_eq r w'
          clear hr hr' HX HY
          go_wp2_with fail
          refine wp_region_quiet_below (by kernel_rfl) (by kernel_rfl) ?_
          repeat (first | go_big_quiet_step (fail) | quiet_step (fail))
          refine wpQuiet_nil ?_
          rintro _ ⟨q, rfl⟩
          have HB5 := Lib.hid (HB.out.trans ((below_regrown _ q.d q.os).mono HB.out.size))
          clear c0 c1 c2 c3 c4 c5 c6 c7 c8 c9 e0 e1 e2 e3 e4 e5 e6 e7 e8 e9 f0 f1 f2 f3 f4 f5 f6 f7 f8 f9 g0 g1 g2 g3 g4 g5 g6 g7 g8 g9 k0 k1 r0 q0
          generalize grow (redrawn _ q.d) q.os = wa at *
          go_wp2_with fail
          exact ⟨⟨j + 1, by omega, by simp, HB5.out⟩, by simp [intOf]; omega⟩
        · obtain rfl : j = x.rs.length := by omega
          have hdj : decide ((x.rs.length : Int) < (x.rs.length : Int)) = false := by simp
          go_wp2_with fail
          go_roundw
          · exact ⟨k + 1, by omega, by simp, HB4.out⟩
          · simp [intOf]; omega
    · obtain rfl : k = la := by omega
      have hd : decide ((k : Int) < (k : Int)) = false := by simp
      have HB := Lib.hid hB
      clear hB
      go_wp2_with fail
      go_ret
      exact ⟨rfl, HB1.out.trans (HB.out.mono HB1.out.size)⟩
end Go.Proofs.Ytikdkhiehfccpaa
