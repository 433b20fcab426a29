/- LfI, LfJ in one text. -/
import Derived.Test.YtgnlmodaekfhfaaDoorMLfe
import Derived.Test.YtgnlmodaekfhfaaDoorLfH

/- The reference of chapter 14: Demand. -/
namespace Go.Proofs.YtgnlmodaekfhfaaDoor
open Go.RowKit Go.Shelf Go.Sort

attribute [-go_sem] run_equalIn_agg run_neq_struct
theorem landn_same {p m : Nat} : landn p m = p ↔ land p m = 0 := by
  constructor
  · intro h
    apply Nat.eq_of_testBit_eq
    intro i
    have := congrArg (fun x => x.testBit i) h
    simp only [testBit_landn] at this
    rw [testBit_land, Nat.zero_testBit]
    cases hp : p.testBit i <;> cases hm : m.testBit i <;> simp_all
  · intro h
    apply Nat.eq_of_testBit_eq
    intro i
    have := congrArg (fun x => x.testBit i) h
    simp only [testBit_land, Nat.zero_testBit] at this
    rw [testBit_landn]
    cases hp : p.testBit i <;> cases hm : m.testBit i <;> simp_all
set_option maxHeartbeats 4000000 in
set_option maxRecDepth 10000 in
theorem lf_Demand {d : Nat → Nat} {n : Nat} {s : St} (hi : SInv d n s) {SA : Array Value} (hSA : SA = s.cells) {suit : Nat} {req : Bool} (hsu : suit < 256) {t : St} {er : Nat} (he : s.demandV suit req = (t, er)) (w : World) :
    Calls Tryd.prog 62 #[.agg SA, .int .u8 (suit : Int), .bool req] w fun e w' => ∃ SB, (SB = t.cells ∧ e = .returned (.tuple #[.agg SB, .int .i64 (er : Int)])) ∧ Below w.heap.size w w' := by
  have HM0 := Lib.hid (RM.start w hSA)
  have HRA : Hid (Row ((w.alloc (.cells SA 80)).alloc (.cells zst 80)) w.heap.size 80 SA) := Lib.hid ((Row.new w _ _).alloc _)
  have HZ : Hid ((Tryd.prog.info? 80).map (·.size) = some SA.size ∧ SA.size = 24 ∧ SA.all (·.oneCell') = true) := Lib.hid (by rw [hSA]; exact ⟨size_rst, rfl, one_cells _⟩)
  have HSA := Lib.hid hSA
  have HI := Lib.hid hi
  have hld := hi.ok.ld
  have hdc := hi.ok.dc
  unfold St.demandV at he
  clear hSA hi
  go_enter Tryd.func62, Tryd.ntmps62
  go_upto_region 1 with fail
  change Code.wp _ _ _ _ ((w.alloc (.cells SA 80)).alloc (.cells zst 80))
  generalize (w.alloc (.cells SA 80)).alloc (.cells zst 80) = w1 at *
  have c18 : w1.cell? ⟨w.heap.size, 18, none⟩ = some (.bool s.pend) := HM0.out.row.cell 18
  cases hp : s.pend
  · rw [hp] at c18 he
    rw [if_neg (by decide)] at he
    have HPD := Lib.hid hp
    clear hp
    have c9 : w1.cell? ⟨w.heap.size, 9, none⟩ = some (.int .u8 (s.dc : Int)) := HM0.out.row.cell 9
    have c10 : w1.cell? ⟨w.heap.size, 10, none⟩ = some (.int .u8 (s.ld : Int)) := HM0.out.row.cell 10
    have c11 : w1.cell? ⟨w.heap.size, 11, none⟩ = some (.int .u8 (s.ct : Int)) := HM0.out.row.cell 11
    have c20 : w1.cell? ⟨w.heap.size, 20, none⟩ = some (.int .u8 (s.must : Int)) := HM0.out.row.cell 20
    obtain ⟨pt, hpt⟩ : ∃ x, x = (s.ld + 2) % 4 := ⟨_, rfl⟩
    have e1 : IntKind.u8.wrap ((s.ld : Int) + 2) = (s.ld : Int) + 2 := by rw [IntKind.wrap_u8]; omega
    have t1 : ((s.ld : Int) + 2).tmod 4 = (pt : Int) := by rw [Int.tmod_eq_emod_of_nonneg (by omega)]; omega
    have e2 : IntKind.u8.wrap (pt : Int) = (pt : Int) := by rw [IntKind.wrap_u8]; omega
    have hpt4 : pt < 4 := by omega
    obtain ⟨x, hx⟩ : ∃ x, x = (s.ld + s.dc) % 2 := ⟨_, rfl⟩
    have e3 : IntKind.u8.wrap ((s.ld : Int) + (s.dc : Int)) = (s.ld : Int) + (s.dc : Int) := by rw [IntKind.wrap_u8]; omega
    have t3 : ((s.ld : Int) + (s.dc : Int)).tmod 2 = (x : Int) := by rw [Int.tmod_eq_emod_of_nonneg (by omega)]; omega
    have e4 : IntKind.u8.wrap (x : Int) = (x : Int) := by rw [IntKind.wrap_u8]; omega
    rw [← hpt] at he
    have hxd : x = 0 ↔ pt % 2 = s.dc % 2 := by omega
    clear hpt hx
    by_cases h1 : 3 < suit
    · rw [if_pos (.inl h1)] at he
      obtain ⟨rfl, rfl⟩ := Prod.mk.inj he
      have h1I : (3 : Int) < (suit : Int) := by omega
      go_upto_region 5 with fail
      go_wp2_with (first
        | refine wpList_load_row_g rfl 80 (.tmp 3) rfl w.heap.size rfl 80 SA (0, 0) _ HRA.out Tryd.underlying80 rfl HZ.out.1 ?_
        | refine wpList_store_row rfl 80 (.tmp 6) (.tmp 38) rfl (w.heap.size + 1) SA rfl rfl 80 _ HM0.out.res HZ.out.1 (by rw [HZ.out.2.1]; rfl) HZ.out.2.2 ?_)
      refine bodyPost_ret (v := .tuple #[.agg SA, .int .i64 143]) (results_cellt Tryd.results62 _ _ (w.heap.size + 1) _ SA (0, 0) _ rfl (setRow_heap _ _ _ _ _ _ HM0.out.res) Tryd.underlying80 rfl HZ.out.1) rfl (by first | exact ⟨SA, ⟨HSA.out, rfl⟩, below_setRow HM0.out.bl (Nat.le_succ _) _⟩ | exact ⟨by rw [HSA.out], below_setRow HM0.out.bl (Nat.le_succ _) _⟩)
    have h1I : ¬ (3 : Int) < (suit : Int) := by omega
    by_cases h2n : ¬ s.ct = 0
    · have h2 := h2n
      rw [if_pos (.inr (.inl h2))] at he
      obtain ⟨rfl, rfl⟩ := Prod.mk.inj he
      have h2I : ((s.ct : Int) != 0) = true := by rw [bne_iff_ne]; omega
      go_upto_region 5 with fail
      go_wp2_with (first
        | refine wpList_load_row_g rfl 80 (.tmp 3) rfl w.heap.size rfl 80 SA (0, 0) _ HRA.out Tryd.underlying80 rfl HZ.out.1 ?_
        | refine wpList_store_row rfl 80 (.tmp 6) (.tmp 38) rfl (w.heap.size + 1) SA rfl rfl 80 _ HM0.out.res HZ.out.1 (by rw [HZ.out.2.1]; rfl) HZ.out.2.2 ?_)
      refine bodyPost_ret (v := .tuple #[.agg SA, .int .i64 143]) (results_cellt Tryd.results62 _ _ (w.heap.size + 1) _ SA (0, 0) _ rfl (setRow_heap _ _ _ _ _ _ HM0.out.res) Tryd.underlying80 rfl HZ.out.1) rfl (by first | exact ⟨SA, ⟨HSA.out, rfl⟩, below_setRow HM0.out.bl (Nat.le_succ _) _⟩ | exact ⟨by rw [HSA.out], below_setRow HM0.out.bl (Nat.le_succ _) _⟩)
    have h2 : s.ct = 0 := by omega
    clear h2n
    have h2I : ((s.ct : Int) != 0) = false := by rw [bne_eq_false_iff_eq]; omega
    by_cases h3n : ¬ s.must = 0
    · have h3 := h3n
      rw [if_pos (.inr (.inr (.inl h3)))] at he
      obtain ⟨rfl, rfl⟩ := Prod.mk.inj he
      have h3I : ((s.must : Int) != 0) = true := by rw [bne_iff_ne]; omega
      clear h2
      go_upto_region 5 with fail
      go_wp2_with (first
        | refine wpList_load_row_g rfl 80 (.tmp 3) rfl w.heap.size rfl 80 SA (0, 0) _ HRA.out Tryd.underlying80 rfl HZ.out.1 ?_
        | refine wpList_store_row rfl 80 (.tmp 6) (.tmp 38) rfl (w.heap.size + 1) SA rfl rfl 80 _ HM0.out.res HZ.out.1 (by rw [HZ.out.2.1]; rfl) HZ.out.2.2 ?_)
      refine bodyPost_ret (v := .tuple #[.agg SA, .int .i64 143]) (results_cellt Tryd.results62 _ _ (w.heap.size + 1) _ SA (0, 0) _ rfl (setRow_heap _ _ _ _ _ _ HM0.out.res) Tryd.underlying80 rfl HZ.out.1) rfl (by first | exact ⟨SA, ⟨HSA.out, rfl⟩, below_setRow HM0.out.bl (Nat.le_succ _) _⟩ | exact ⟨by rw [HSA.out], below_setRow HM0.out.bl (Nat.le_succ _) _⟩)
    have h3 : s.must = 0 := by omega
    clear h3n
    have h3I : ((s.must : Int) != 0) = false := by rw [bne_eq_false_iff_eq]; omega
    by_cases h4 : x = 0
    · rw [if_pos (.inr (.inr (.inr (hxd.1 h4))))] at he
      obtain ⟨rfl, rfl⟩ := Prod.mk.inj he
      have h4I : ((x : Int) == 0) = true := by rw [beq_iff_eq]; omega
      clear h2 h3 h4 hxd
      go_upto_region 5 with fail
      go_wp2_with (first
        | refine wpList_load_row_g rfl 80 (.tmp 3) rfl w.heap.size rfl 80 SA (0, 0) _ HRA.out Tryd.underlying80 rfl HZ.out.1 ?_
        | refine wpList_store_row rfl 80 (.tmp 6) (.tmp 38) rfl (w.heap.size + 1) SA rfl rfl 80 _ HM0.out.res HZ.out.1 (by rw [HZ.out.2.1]; rfl) HZ.out.2.2 ?_)
      refine bodyPost_ret (v := .tuple #[.agg SA, .int .i64 143]) (results_cellt Tryd.results62 _ _ (w.heap.size + 1) _ SA (0, 0) _ rfl (setRow_heap _ _ _ _ _ _ HM0.out.res) Tryd.underlying80 rfl HZ.out.1) rfl (by first | exact ⟨SA, ⟨HSA.out, rfl⟩, below_setRow HM0.out.bl (Nat.le_succ _) _⟩ | exact ⟨by rw [HSA.out], below_setRow HM0.out.bl (Nat.le_succ _) _⟩)
    have h4I : ((x : Int) == 0) = false := by rw [beq_eq_false_iff_ne]; omega
    rw [if_neg (by rintro (h | h | h | h); exact h1 h; exact h h2; exact h h3; exact h4 (hxd.2 h))] at he
    have HMU := Lib.hid h3
    have HE := Lib.hid he
    have hsu4 : suit < 4 := by omega
    clear h1 h2 h3 h4 hxd he
    go_upto_region 6 with fail
    have hm0 : s.must = 0 := HMU.out
    obtain ⟨p, hpn⟩ : ∃ p, s.pn pt = p := ⟨_, rfl⟩
    have hpb : p < 4503599627370496 := by rw [← hpn]; exact HI.out.ok.pn _ hpt4
    have hp16 : 2 ^ suit < 16 := Nat.pow_lt_pow_right (a := 2) (n := 4) (by decide) hsu4
    have hnot := not_suits hpb hp16
    have hsame := @landn_same p (suitsM (2 ^ suit))
    have hsh : lor 0 (shl1 suit) = 2 ^ suit := by unfold lor shl1; rw [Nat.zero_or, if_pos (by omega)]
    have hshn : lor s.nt (shl1 suit) = s.nt ||| 2 ^ suit := by unfold lor shl1; rw [if_pos (by omega)]
    have hnt := HI.out.ok.nt
    have hlt : s.nt ||| 2 ^ suit < 16 := Nat.or_lt_two_pow (n := 4) hnt hp16
    have HO1 : Hid (∀ W : World, Calls Tryd.prog 70 #[.int .i64 (suit : Int)] W fun e w' => e = .returned (.int .u8 ((2 ^ suit : Nat) : Int)) ∧ Below W.heap.size W w') := Lib.hid (fun (W : World) => (lf_one suit (by omega) W).mono (by rintro e w' ⟨rfl, rfl⟩; exact ⟨rfl, Below.refl _ _⟩))
    have HO2 : Hid (∀ W : World, Calls Tryd.prog 71 #[.int .u8 ((2 ^ suit : Nat) : Int)] W fun e w' => e = .returned (.int .u8 ((15 - 2 ^ suit % 16 : Nat) : Int)) ∧ Below W.heap.size W w') := Lib.hid (fun (W : World) => (lf_others (2 ^ suit) W).mono (by rintro e w' ⟨rfl, rfl⟩; exact ⟨rfl, Below.refl _ _⟩))
    have HO3 : Hid (∀ W : World, Calls Tryd.prog 69 #[.int .u64 (p : Int), .int .u8 ((15 - 2 ^ suit % 16 : Nat) : Int)] W fun e w' => e = .returned (.int .u64 ((landn p (suitsM (2 ^ suit)) : Nat) : Int)) ∧ Below W.heap.size W w') := Lib.hid (fun (W : World) => (lf_within p (15 - 2 ^ suit % 16) (w64_52 hpb) (by omega) W).mono (by rintro e w' ⟨rfl, rfl⟩; exact ⟨by rw [hnot], Below.refl _ _⟩))
    have HW0 := Lib.hid (fun (W : World) => lf_with 0 suit (by unfold W64; decide) (by omega) W)
    have HWN := Lib.hid (fun (W : World) => lf_with s.nt suit (by unfold W64; omega) (by omega) W)
    rw [hsh] at HW0
    rw [hshn] at HWN
    have he := HE.out
    rw [hpn] at he
    clear hnot hsh hshn HE
    obtain ⟨no, hno⟩ : ∃ x, s.nt ||| 2 ^ suit = x := ⟨_, rfl⟩
    rw [hno] at he HWN hlt
    obtain ⟨pq, hpq⟩ : ∃ x, (2 ^ suit : Nat) = x := ⟨_, rfl⟩
    rw [hpq] at HO1 HO2 HO3 HW0 he hsame hp16
    clear hno hpq
    generalize (15 - pq % 16 : Nat) = rr at *
    obtain ⟨nx, hnx⟩ : ∃ x, landn p (suitsM pq) = x := ⟨_, rfl⟩
    rw [hnx] at HO3 he hsame
    clear hnx
    have HE := Lib.hid he
    clear he
    have hptI : (pt : Int) < 4 := by omega
    have u1 : IntKind.i64.wrap (suit : Int) = (suit : Int) := IntWalk.i64_in _ (by omega)
    have u2 : IntKind.u8.wrap (pq : Int) = (pq : Int) := by rw [IntKind.wrap_u8]; omega
    have u3 : IntKind.u8.wrap (no : Int) = (no : Int) := by rw [IntKind.wrap_u8]; omega
    have u4 : IntKind.u64.wrap (s.nt : Int) = (s.nt : Int) := wrap_u64 _ (by unfold W64; omega)
    have cp : w1.cell? ⟨w.heap.size, 4 + pt, none⟩ = some (.int .u64 (p : Int)) := by rw [HM0.out.row.cell, st_pget _ _ hpt4, hpn]
    have rcp := fun dd os => cell_regrown cp dd os
    have HPN := Lib.hid hpn
    clear hpn
    refine wp_region_quiet_below (by kernel_rfl) (by kernel_rfl) ?_
    repeat (quiet_step (first | with_reducible exact Calls.regrown_of (HO1.out _) | with_reducible exact Calls.regrown_of (HO2.out _) | with_reducible exact Calls.regrown_of (HO3.out _)))
    refine wpQuiet_nil ?_
    rintro _ ⟨z, rfl⟩
    have hb := below_regrown w1 z.d z.os
    have cp6 := rcp z.d z.os
    generalize grow (redrawn w1 z.d) z.os = w6 at *
    have HM6 := Lib.hid (HM0.out.below hb)
    have HRA6 := Lib.hid (HRA.out.below HRA.out.lt hb)
    clear HM0 HRA cp rcp hb c18 c9 c10 c11 c20
    have he := HE.out
    by_cases hz : land p (suitsM pq) = 0
    · rw [if_pos hz] at he
      obtain ⟨rfl, rfl⟩ := Prod.mk.inj he
      have hnp : ((nx : Int) == (p : Int)) = true := by rw [beq_iff_eq, hsame.2 hz]
      clear hz hsame he HE
      go_upto_region 8 with fail
      go_wp2_with (first
        | refine wpList_load_row_g rfl 80 (.tmp 3) rfl w.heap.size rfl 80 SA (0, 0) _ HRA6.out Tryd.underlying80 rfl HZ.out.1 ?_
        | refine wpList_store_row rfl 80 (.tmp 6) (.tmp 54) rfl (w.heap.size + 1) SA rfl rfl 80 _ HM6.out.res HZ.out.1 (by rw [HZ.out.2.1]; rfl) HZ.out.2.2 ?_)
      refine bodyPost_ret (v := .tuple #[.agg SA, .int .i64 143]) (results_cellt Tryd.results62 _ _ (w.heap.size + 1) _ SA (0, 0) _ rfl (setRow_heap _ _ _ _ _ _ HM6.out.res) Tryd.underlying80 rfl HZ.out.1) rfl (by first | exact ⟨SA, ⟨HSA.out, rfl⟩, below_setRow HM6.out.bl (Nat.le_succ _) _⟩ | exact ⟨by rw [HSA.out], below_setRow HM6.out.bl (Nat.le_succ _) _⟩)
    · rw [if_neg hz] at he
      obtain ⟨rfl, rfl⟩ := Prod.mk.inj he
      have hnp : ((nx : Int) == (p : Int)) = false := by rw [beq_eq_false_iff_ne]; intro h; exact hz (hsame.1 (by omega))
      clear hz hsame he HE
      have f6 := HM6.out.row.frozen (4 + pt)
      have HM9 := Lib.hid (HM6.out.set (st_pset s pt nx hpt4))
      go_upto_region 10 with fail
      clear cp6 f6 hnp HM6 HRA6
      generalize w6.setCell ⟨w.heap.size, 4 + pt, none⟩ (.int .u64 (nx : Int)) = w9 at *
      have d20 : w9.cell? ⟨w.heap.size, 20, none⟩ = some (.int .u8 (s.must : Int)) := HM9.out.row.cell 20
      have d21 : w9.cell? ⟨w.heap.size, 21, none⟩ = some (.int .u8 (s.nt : Int)) := HM9.out.row.cell 21
      have g20 := HM9.out.row.frozen 20
      have g21 := HM9.out.row.frozen 21
      cases req
      · have HM12 : Hid (RM w (w9.setCell ⟨w.heap.size, 21, none⟩ (.int .u8 (no : Int))) { s with pn := setH s.pn pt nx, must := if false = true then pq else s.must, nt := if false = true then 0 else no }) := Lib.hid (HM9.out.set rfl)
        go_upto_region 13 with (go_at_call 74; refine (HWN.out _).mono ?_; rintro e w' ⟨rfl, rfl⟩)
        clear d20 d21 g20 g21 HM9
        generalize w9.setCell ⟨w.heap.size, 21, none⟩ (.int .u8 (no : Int)) = w12 at *
        obtain ⟨SB, hSB⟩ : ∃ SB, SB = ({ s with pn := setH s.pn pt nx, must := if false = true then pq else s.must, nt := if false = true then 0 else no } : St).cells := ⟨_, rfl⟩
        have HSB := Lib.hid hSB
        have HRB : Hid (Row w12 w.heap.size 80 SB) := Lib.hid (by rw [hSB]; exact HM12.out.row)
        have HZB : Hid ((Tryd.prog.info? 80).map (·.size) = some SB.size ∧ SB.size = 24 ∧ SB.all (·.oneCell') = true) := Lib.hid (by rw [hSB]; exact ⟨size_rst, rfl, one_cells _⟩)
        clear hSB
        go_wp2_with (first
          | refine wpList_load_row_g rfl 80 (.tmp 3) rfl w.heap.size rfl 80 SB (0, 0) _ HRB.out Tryd.underlying80 rfl HZB.out.1 ?_
          | refine wpList_store_row rfl 80 (.tmp 6) (.tmp 74) rfl (w.heap.size + 1) SB rfl rfl 80 _ HM12.out.res HZB.out.1 (by rw [HZB.out.2.1]; rfl) HZB.out.2.2 ?_)
        refine bodyPost_ret (v := .tuple #[.agg SB, .int .i64 0]) (results_cellt Tryd.results62 _ _ (w.heap.size + 1) _ SB (0, 0) _ rfl (setRow_heap _ _ _ _ _ _ HM12.out.res) Tryd.underlying80 rfl HZB.out.1) rfl ?_
        refine ⟨?_, below_setRow HM12.out.bl (Nat.le_succ _) _⟩
        rw [HSB.out, HPD.out]
        first | (rw [HMU.out]; done) | rfl | (rw [HMU.out]; rfl)
      · have HM12 : Hid (RM w ((w9.setCell ⟨w.heap.size, 20, none⟩ (.int .u8 (pq : Int))).setCell ⟨w.heap.size, 21, none⟩ (.int .u8 0)) { s with pn := setH s.pn pt nx, must := if true = true then pq else s.must, nt := if true = true then 0 else no }) := Lib.hid ((HM9.out.set (s' := { s with pn := setH s.pn pt nx, must := pq }) rfl).set rfl)
        go_upto_region 13 with (go_at_call 74; refine (HW0.out _).mono ?_; rintro e w' ⟨rfl, rfl⟩)
        clear d20 d21 g20 g21 HM9
        generalize (w9.setCell ⟨w.heap.size, 20, none⟩ (.int .u8 (pq : Int))).setCell ⟨w.heap.size, 21, none⟩ (.int .u8 0) = w12 at *
        obtain ⟨SB, hSB⟩ : ∃ SB, SB = ({ s with pn := setH s.pn pt nx, must := if true = true then pq else s.must, nt := if true = true then 0 else no } : St).cells := ⟨_, rfl⟩
        have HSB := Lib.hid hSB
        have HRB : Hid (Row w12 w.heap.size 80 SB) := Lib.hid (by rw [hSB]; exact HM12.out.row)
        have HZB : Hid ((Tryd.prog.info? 80).map (·.size) = some SB.size ∧ SB.size = 24 ∧ SB.all (·.oneCell') = true) := Lib.hid (by rw [hSB]; exact ⟨size_rst, rfl, one_cells _⟩)
        clear hSB
        go_wp2_with (first
          | refine wpList_load_row_g rfl 80 (.tmp 3) rfl w.heap.size rfl 80 SB (0, 0) _ HRB.out Tryd.underlying80 rfl HZB.out.1 ?_
          | refine wpList_store_row rfl 80 (.tmp 6) (.tmp 74) rfl (w.heap.size + 1) SB rfl rfl 80 _ HM12.out.res HZB.out.1 (by rw [HZB.out.2.1]; rfl) HZB.out.2.2 ?_)
        refine bodyPost_ret (v := .tuple #[.agg SB, .int .i64 0]) (results_cellt Tryd.results62 _ _ (w.heap.size + 1) _ SB (0, 0) _ rfl (setRow_heap _ _ _ _ _ _ HM12.out.res) Tryd.underlying80 rfl HZB.out.1) rfl ?_
        refine ⟨?_, below_setRow HM12.out.bl (Nat.le_succ _) _⟩
        rw [HSB.out, HPD.out]
        first | (rw [HMU.out]; done) | rfl | (rw [HMU.out]; rfl)
  · rw [hp] at c18 he
    rw [if_pos rfl] at he
    obtain ⟨rfl, rfl⟩ := Prod.mk.inj he
    clear hp
    go_upto_region 2 with fail
    go_wp2_with (first
      | refine wpList_load_row_g rfl 80 (.tmp 3) rfl w.heap.size rfl 80 SA (0, 0) _ HRA.out Tryd.underlying80 rfl HZ.out.1 ?_
      | refine wpList_store_row rfl 80 (.tmp 6) (.tmp 12) rfl (w.heap.size + 1) SA rfl rfl 80 _ HM0.out.res HZ.out.1 (by rw [HZ.out.2.1]; rfl) HZ.out.2.2 ?_)
    refine bodyPost_ret (v := .tuple #[.agg SA, .int .i64 142]) (results_cellt Tryd.results62 _ _ (w.heap.size + 1) _ SA (0, 0) _ rfl (setRow_heap _ _ _ _ _ _ HM0.out.res) Tryd.underlying80 rfl HZ.out.1) rfl (by first | exact ⟨SA, ⟨HSA.out, rfl⟩, below_setRow HM0.out.bl (Nat.le_succ _) _⟩ | exact ⟨by rw [HSA.out], below_setRow HM0.out.bl (Nat.le_succ _) _⟩)
end Go.Proofs.YtgnlmodaekfhfaaDoor

/- The reference of chapter 14: Choose, any byte. -/
namespace Go.Proofs.YtgnlmodaekfhfaaDoor
open Go.RowKit Go.Shelf Go.Sort

theorem lf_Choose {d : Nat → Nat} {n : Nat} {s : St} (hi : SInv d n s) {SA : Array Value} (hSA : SA = s.cells) {b : Nat} {t : St} {er : Nat} (he : s.chooseV b = (t, er)) (w : World) :
    Calls Tryd.prog 61 #[.agg SA, .int .u8 (b : Int)] w fun e w' => ∃ SB, (SB = t.cells ∧ e = .returned (.tuple #[.agg SB, .int .i64 (er : Int)])) ∧ Below w.heap.size w w' := by
  cases hp : s.pend
  · have h1 : s.chooseV b = (s, 142) := by unfold St.chooseV; rw [hp, if_neg (by decide)]
    rw [h1] at he
    obtain ⟨rfl, rfl⟩ := Prod.mk.inj he
    exact lf_Choose_free hSA hp b w
  · by_cases h : ∃ k, k < 6 ∧ b = 2 ^ k
    · obtain ⟨k, hk, rfl⟩ := h
      rw [chooseV_may s hp k hk] at he
      rcases (show k = 0 ∨ k = 1 ∨ k = 2 ∨ k = 3 ∨ k = 4 ∨ k = 5 by omega) with rfl | rfl | rfl | rfl | rfl | rfl
      · have h := lf_Choose_0 hi hSA hp w
        rw [he] at h
        exact h
      · have h := lf_Choose_1 hi hSA hp w
        rw [he] at h
        exact h
      · have h := lf_Choose_2 hi hSA hp w
        rw [he] at h
        exact h
      · have h := lf_Choose_3 hi hSA hp w
        rw [he] at h
        exact h
      · have h := lf_Choose_4 hi hSA hp w
        rw [he] at h
        exact h
      · have h := lf_Choose_5 hi hSA hp w
        rw [he] at h
        exact h
    · rw [chooseV_none s hp b (fun k hk e => h ⟨k, hk, e⟩)] at he
      obtain ⟨rfl, rfl⟩ := Prod.mk.inj he
      exact lf_Choose_none hSA hp b (fun k hk e => h ⟨k, hk, e⟩) w
end Go.Proofs.YtgnlmodaekfhfaaDoor
