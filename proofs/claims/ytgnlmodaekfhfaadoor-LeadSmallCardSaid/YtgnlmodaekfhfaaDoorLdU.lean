/- finesselaw14.does over this seat's program. -/
import Derived.Test.YtgnlmodaekfhfaaDoorLdM
import Derived.Test.YtgnlmodaekfhfaaDoorLdT
import Derived.Test.YtgnlmodaekfhfaaDoorMAct
import Derived.Deep.RegionWith
namespace Go.Proofs.YtgnlmodaekfhfaaDoor
open Go.RowKit Go.Shelf Go.Sort

theorem st_hget (s : St) (k : Nat) (hk : k < 4) : s.cells[k]? = some (.int .u64 (s.h k : Int)) := by
  rcases (show k = 0 ∨ k = 1 ∨ k = 2 ∨ k = 3 by omega) with h | h | h | h <;> rw [h] <;> rfl
set_option maxHeartbeats 2000000 in
set_option maxRecDepth 10000 in
theorem law_does {w : World} {B n : Nat} {d : Nat → Nat} {s : St} {a : AcT} (hd : Deal4 d n) (hi : SInv d n s) (ha : a.ok) (hA : TblAt w B s) (hT : Tab w) :
    Calls Tryd.prog 20 #[.pointer (some ⟨B, 0, none⟩), .agg a.cells] w fun e w' =>
      e = .returned (.tuple #[.int .i64 ((doesV s a).1.2 : Int), .int .u8 ((doesV s a).2 : Int)]) ∧ TblAt w' B (doesV s a).1.1 ∧ Kept (fun k => k ≠ B) w w' := by
  have hs := hi.ok
  have hmd := hi.toSCore.md hd
  have HI := Lib.hid hi
  have HMD := Lib.hid hmd
  have HS := Lib.hid hs
  have HA0 := Lib.hid hA
  have HT0 := Lib.hid hT
  clear hi hmd hs hT
  obtain ⟨SA, hSA⟩ : ∃ SA, SA = s.cells := ⟨_, rfl⟩
  have HZ : Hid ((Tryd.prog.info? 45).map (·.size) = some SA.size ∧ SA.size = 24 ∧ SA.all (·.oneCell') = true) := Lib.hid (by rw [hSA]; exact ⟨size_st, rfl, by simp [Value.oneCell']⟩)
  have HST := Lib.hid (fun (w1 : World) (hb : Below w.heap.size w w1) => ld_State HMD.out (HA0.out.below HA0.out.lt hb))
  rw [← hSA] at HST
  have HSA := Lib.hid hSA
  have hlt := hA.lt
  clear hSA hA
  have hB0 := (Below.refl w.heap.size w).alloc (Nat.le_refl _) (.cells a.cells 41)
  have hR0 : Row (w.alloc (.cells a.cells 41)) w.heap.size 41 a.cells := Row.new _ _ _
  go_enter Tryd.func20, Tryd.ntmps20
  go_upto_region 1 with fail
  generalize w.alloc (.cells a.cells 41) = w0 at *
  go_wp2_with fail
  refine (HST.out _ hB0).mono ?_
  rintro e w1 ⟨rfl, hb1⟩
  have hR1 := hR0.below hR0.lt hb1
  have hB1 := hB0.trans (hb1.mono hB0.size)
  clear hb1 hR0 hB0
  go_upto_region 2 with (refine wpList_store_row rfl 45 (.tmp 6) (.tmp 10) rfl w1.heap.size SA rfl rfl 45 _ (Row.new _ _ _) HZ.out.1 (by rw [HZ.out.2.1]; rfl) HZ.out.2.2 ?_)
  have hb2 := below_setRow ((Below.refl w1.heap.size w1).alloc (Nat.le_refl _) (.cells zst 45)) (Nat.le_refl _) SA
  have hR2 : Row ((w1.alloc (.cells zst 45)).setRow w1.heap.size SA) w1.heap.size 45 SA := setRow_heap _ _ _ _ _ _ (Row.new _ _ _)
  have hRa := hR1.below hR1.lt hb2
  have hB2 := hB1.trans (hb2.mono hB1.size)
  change Code.wp _ _ _ _ ((w1.alloc (.cells zst 45)).setRow w1.heap.size SA)
  generalize (w1.alloc (.cells zst 45)).setRow w1.heap.size SA = w2 at *
  obtain ⟨bS, hbS⟩ : ∃ b, w1.heap.size = b := ⟨_, rfl⟩
  rw [hbS] at hR2 ⊢
  have hbSl : w.heap.size ≤ bS := by rw [← hbS]; exact hB1.size
  clear hbS hb2 hR1 hB1
  have a0 := hRa.cell 0
  have a1 := hRa.cell 1
  have a2 := hRa.cell 2
  simp only [List.getElem?_toArray, List.getElem?_cons_zero, List.getElem?_cons_succ] at a0 a1 a2
  have r1 := fun dd os => cell_regrown a1 dd os
  have r2 := fun dd os => cell_regrown a2 dd os
  have hkd := ha.kind
  have hst := ha.seat
  have hcd := ha.card
  obtain ⟨p, hp⟩ : ∃ p, a.seat % 4 = p := ⟨_, rfl⟩
  have hp4 : p < 4 := by omega
  have HB2 := Lib.hid hB2
  have HR2 := Lib.hid hR2
  have HT2 := Lib.hid (fun (w' : World) (hb : Below w.heap.size w w') => HT0.out.below HT0.out.pos hb)
  have HA2 := Lib.hid (fun (w' : World) (hb : Below w.heap.size w w') => HA0.out.below HA0.out.lt hb)
  clear hB2 hR2 hRa
  by_cases h45 : a.kind % 8 = 4 ∨ a.kind % 8 = 5
  · obtain ⟨c, hc⟩ : ∃ c, nthV (s.h p) a.card = c := ⟨_, rfl⟩
    have HD : Hid (doesV s a = (s.leadV p c, c)) := Lib.hid (by unfold doesV; rw [if_pos h45, hp, hc])
    have hwp : W64 (s.h p) := w64_52 (HS.out.h p hp4)
    have HN := Lib.hid (fun W => law_nth (s.h p) a.card hwp hcd W)
    rw [hc] at HN
    have ch : w2.cell? ⟨bS, p, none⟩ = some (.int .u64 (s.h p : Int)) := by rw [HR2.out.cell, HSA.out, st_hget s p hp4]
    have rch := fun dd os => cell_regrown ch dd os
    have t1 : ((a.seat : Int)).tmod 4 = (p : Int) := by rw [Int.tmod_eq_emod_of_nonneg (by omega)]; omega
    have t2 : IntKind.u8.wrap (p : Int) = (p : Int) := by rw [IntKind.wrap_u8]; omega
    have hpI : (p : Int) < 4 := by omega
    have HP := Lib.hid hp
    clear hp hc
    generalize s.h p = m at *
    rcases h45 with h45 | h45
    all_goals
      have t0 : ((a.kind : Int)).tmod 8 = ((a.kind % 8 : Nat) : Int) := by rw [Int.tmod_eq_emod_of_nonneg (by omega)]; omega
      rw [h45] at t0
      clear h45
      go_wp2_with fail
      refine wp_region_quiet_below (by kernel_rfl) (by kernel_rfl) ?_
      repeat (first | quiet_step (with_reducible exact Calls.regrown_of (HN.out _)))
      refine wpQuiet_nil ?_
      rintro _ ⟨q, rfl⟩
      have hb9 := below_regrown w2 q.d q.os
      have a1' := r1 q.d q.os
      generalize grow (redrawn w2 q.d) q.os = w9 at *
      have HB9 := Lib.hid (HB2.out.trans (hb9.mono HB2.out.size))
      clear hb9 r1 r2 rch a0 a1 a2 ch
      go_wp2_with (go_at_call 15; refine (ld_Lead (seat := p) (c := c) HS.out HMD.out (HA2.out _ HB9.out) (HT2.out _ HB9.out) (by omega) (fun h => HI.out.toSCore.legal52 h)).mono ?_; rintro e w10 ⟨rfl, hr10, hk10⟩)
      go_ret2
      rw [HD.out]
      exact ⟨rfl, hr10, (Kept.of_below HB9.out).trans hk10⟩
  by_cases h6 : a.kind % 8 = 6
  · obtain ⟨k, hk, hk6⟩ : ∃ k, k = a.card % 6 ∧ k < 6 := ⟨_, rfl, by omega⟩
    obtain ⟨x, hx⟩ : ∃ x, x = 2 ^ k := ⟨_, rfl⟩
    have HD : Hid (doesV s a = (s.chooseV x, s.card)) := Lib.hid (by unfold doesV; rw [if_neg h45, if_pos h6, hx, hk])
    have t0 : ((a.kind : Int)).tmod 8 = ((a.kind % 8 : Nat) : Int) := by rw [Int.tmod_eq_emod_of_nonneg (by omega)]; omega
    rw [h6] at t0
    have t1 : ((a.card : Int)).tmod 6 = (k : Int) := by rw [Int.tmod_eq_emod_of_nonneg (by omega)]; omega
    have t2 : IntKind.u8.wrap (k : Int) = (k : Int) := by rw [IntKind.wrap_u8]; omega
    have t3 : ((2 : Int) ^ k) % 256 = (x : Int) := pow_u8 hx (by omega)
    have c8 : w2.cell? ⟨bS, 17, none⟩ = some (.int .u8 (s.card : Int)) := by rw [HR2.out.cell, HSA.out]; rfl
    clear h45 h6 hk hx hp
    have HR2l := HR2.out.lt
    have HC := Lib.hid (fun (W : World) (hb : Below w.heap.size w W) => ld_Choose (choice := x) HS.out HMD.out (HA2.out W hb))
    have HBB : Hid (B < w.heap.size ∧ w.heap.size ≤ bS ∧ bS < w2.heap.size) := Lib.hid ⟨hlt, hbSl, HR2l⟩
    have HB2d := Lib.hid (HB2.out.drew)
    go_upto_region 8 with fail
    have t3' : IntKind.u8.wrap ((2 : Int) ^ k) = (x : Int) := by rw [IntKind.wrap_u8]; exact t3
    go_region_with (go_at_call 17; refine (HC.out w2.drew HB2d.out).mono ?_; rintro e w10 ⟨rfl, hr10, hk10⟩; have c8' : w10.cell? ⟨bS, 17, none⟩ = some (.int .u8 (s.card : Int)) := (hk10.cell (p := ⟨bS, 17, none⟩) (show bS ≠ B by have := HBB.out; omega) (show bS < w2.drew.heap.size from HBB.out.2.2)).trans c8)
    all_goals
      go_wp2_with fail
      go_ret2
      rw [HD.out]
      first
        | exact ⟨rfl, hr10, (Kept.of_below HB2d.out).trans hk10⟩
        | exact ⟨rfl, hr10, ((Kept.of_below HB2d.out).trans hk10).drew⟩
  by_cases h7 : a.kind % 8 = 7
  · obtain ⟨k, hk, hk6⟩ : ∃ k, k = a.card % 4 ∧ k < 4 := ⟨_, rfl, by omega⟩
    obtain ⟨r, hr⟩ : ∃ r, r = a.seat % 2 := ⟨_, rfl⟩
    have HD : Hid (doesV s a = (s.demandV k (r == 0), 255)) := Lib.hid (by unfold doesV; rw [if_neg h45, if_neg h6, if_pos h7, hk, hr])
    have t0 : ((a.kind : Int)).tmod 8 = ((a.kind % 8 : Nat) : Int) := by rw [Int.tmod_eq_emod_of_nonneg (by omega)]; omega
    rw [h7] at t0
    have t1 : ((a.card : Int)).tmod 4 = (k : Int) := by rw [Int.tmod_eq_emod_of_nonneg (by omega)]; omega
    have t2 : IntKind.u8.wrap (k : Int) = (k : Int) := by rw [IntKind.wrap_u8]; omega
    have t3 : ((a.seat : Int)).tmod 2 = (r : Int) := by rw [Int.tmod_eq_emod_of_nonneg (by omega)]; omega
    have t4 : IntKind.u8.wrap (r : Int) = (r : Int) := by rw [IntKind.wrap_u8]; omega
    have t5 : ((r : Int) == 0) = (r == 0) := beq_cast r 0
    clear h45 h6 h7 hk hr hp
    go_wp2_with (go_at_call 23; refine (ld_Demand (suit := k) (r == 0) HS.out HMD.out (HA2.out _ HB2.out) (by omega)).mono ?_; rintro e w10 ⟨rfl, hr10, hk10⟩)
    go_ret2
    rw [HD.out]
    exact ⟨rfl, hr10, (Kept.of_below HB2.out).trans hk10⟩
  · obtain ⟨q, hq, hq8⟩ : ∃ q, q = a.kind % 8 ∧ q < 8 := ⟨_, rfl, by omega⟩
    obtain ⟨c, hc⟩ : ∃ c, nthV s.legal a.card = c := ⟨_, rfl⟩
    have HD : Hid (doesV s a = (s.playV c, c)) := Lib.hid (by unfold doesV; rw [if_neg h45, if_neg h6, if_neg h7, hc])
    have t0 : ((a.kind : Int)).tmod 8 = (q : Int) := by rw [Int.tmod_eq_emod_of_nonneg (by omega)]; omega
    have t1 : IntKind.u8.wrap (q : Int) = (q : Int) := by rw [IntKind.wrap_u8]; omega
    have e4 : ((q : Int) == 4) = false := by rw [beq_eq_false_iff_ne]; omega
    have e5 : ((q : Int) == 5) = false := by rw [beq_eq_false_iff_ne]; omega
    have e6 : ((q : Int) == 6) = false := by rw [beq_eq_false_iff_ne]; omega
    have e7 : ((q : Int) == 7) = false := by rw [beq_eq_false_iff_ne]; omega
    have hwl := legal_w64 HS.out
    have HN := Lib.hid (fun W => law_nth s.legal a.card hwl hcd W)
    rw [hc] at HN
    have HL := Lib.hid (fun (W : World) (hb : Below w.heap.size w W) => ld_Legal HS.out HMD.out (HA2.out W hb) (HT2.out W hb))
    have HLL : Hid (s.legal.testBit c = true → c < 52) := Lib.hid (fun h => HI.out.toSCore.legal52 h)
    clear h45 h6 h7 hq hp hc
    go_wp2_with fail
    refine wp_region_quiet_below (by kernel_rfl) (by kernel_rfl) ?_
    repeat (first | quiet_step (with_reducible exact Calls.regrown_of (HN.out _)) | quiet_step (with_reducible exact Calls.regrown_of (HL.out _ (HB2.out.trans ((below_regrown _ _ _).mono HB2.out.size)))))
    refine wpQuiet_nil ?_
    rintro _ ⟨y, rfl⟩
    have hb9 := below_regrown w2 y.d y.os
    generalize grow (redrawn w2 y.d) y.os = w9 at *
    have HB9 := Lib.hid (HB2.out.trans (hb9.mono HB2.out.size))
    clear hb9 r1 r2 a0 a1 a2
    go_wp2_with (go_at_call 16; refine (ld_Play (c := c) HS.out HMD.out (HA2.out _ HB9.out) (HT2.out _ HB9.out) HLL.out).mono ?_; rintro e w10 ⟨rfl, hr10, hk10⟩)
    go_ret2
    rw [HD.out]
    exact ⟨rfl, hr10, (Kept.of_below HB9.out).trans hk10⟩
end Go.Proofs.YtgnlmodaekfhfaaDoor
