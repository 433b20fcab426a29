/- revoke.count over this seat's program: open play, both sides, the joint. -/
import Derived.Test.YtdlnilebnobllaaRvCntL
import Derived.Test.YtdlnilebnobllaaRvCntA
import Derived.Test.YtdlnilebnobllaaRvCntB
namespace Go.Proofs.Ytdlnilebnobllaa
open Go.RowKit Go.Shelf Go.Sort

set_option maxHeartbeats 4000000 in
set_option maxRecDepth 100000 in
theorem rev_count_o (r : Rc) (a : Option Addr) (len cap : Nat) (w : World) (hok : r.ok len cap) (hz : Byt w a len r.zs) (hab : ∀ ad, a = some ad → ad.block < w.heap.size) (hd : r.dealt = true) (hE : r.rightV = (-1, 0)) (h60 : len ≤ 60000) (hopn : len < 4 * pop (r.h 0)) :
    Calls Try.prog 36 #[r.v a len cap] w fun e w' => e = .returned (.tuple #[pairV r.cnt.1, pairV r.cnt.2.1, .int .i64 (r.cnt.2.2 : Int)]) ∧ Below w.heap.size w w' := by
  have HFI : Hid (∀ w1, Below w.heap.size w w1 → Calls Try.prog 21 #[r.v a len cap] w1 fun e w' => ∃ v, e = .returned (.tuple #[v, .int .i64 0]) ∧ OwnV w' w1.heap.size v (findAll r.rnds) ∧ Below w1.heap.size w1 w') :=
    fun w1 hb => rev_find_ok r a len cap w1 hok (hz.below (Nat.le_refl _) hb) (fun ad h => Nat.lt_of_lt_of_le (hab ad h) hb.size) hd hE h60
  have HWI : Hid (∀ w1, Below w.heap.size w w1 → Calls Try.prog 18 #[r.v a len cap] w1 fun e w' => ∃ v, e = .returned (.tuple #[v, .int .i64 0]) ∧ OwnU w' w1.heap.size v (winsTo r.rnds) ∧ Below w1.heap.size w1 w') :=
    fun w1 hb => rev_winners_ok r a len cap w1 hok (hz.below (Nat.le_refl _) hb) (fun ad h => Nat.lt_of_lt_of_le (hab ad h) hb.size) hd hE
  have HL := Lib.hid hz.length
  have HOPN := Lib.hid hopn
  clear hopn
  have hw0 := hok.h 0
  go_enter Try.func36, Try.ntmps36
  go_wp2_with fail
  have hB := (((((Below.refl w.heap.size w).alloc (Nat.le_refl _) (.cells (r.cells a len cap) 27)).alloc (by simp) (.cells #[.int .i64 0, .int .i64 0] 43)).alloc (by simp; omega) (.cells #[.int .i64 0, .int .i64 0] 43)).alloc (by simp; omega) (.cells #[.int .i64 0, .int .i64 0] 43)).alloc (by simp; omega) (.cells #[.int .i64 0, .int .i64 0] 43)
  refine (HFI.out _ hB).mono ?_
  rintro e w1 ⟨vl, rfl, hol, hb1⟩
  obtain ⟨al, cl, rfl, hal⟩ := hol.slice
  have hsz1 := hb1.size
  have hR0 := (((Row.new w 27 (r.cells a len cap)).alloc (.cells #[.int .i64 0, .int .i64 0] 43)).alloc (.cells #[.int .i64 0, .int .i64 0] 43)).alloc (.cells #[.int .i64 0, .int .i64 0] 43) |>.alloc (.cells #[.int .i64 0, .int .i64 0] 43)
  have hR1 := ((Row.new ((w.alloc (.cells (r.cells a len cap) 27)).alloc (.cells #[.int .i64 0, .int .i64 0] 43)) 43 #[.int .i64 0, .int .i64 0]).alloc (.cells #[.int .i64 0, .int .i64 0] 43)).alloc (.cells #[.int .i64 0, .int .i64 0] 43)
  have hR2 := ((Row.new (w.alloc (.cells (r.cells a len cap) 27)) 43 #[.int .i64 0, .int .i64 0]).alloc (.cells #[.int .i64 0, .int .i64 0] 43)).alloc (.cells #[.int .i64 0, .int .i64 0] 43) |>.alloc (.cells #[.int .i64 0, .int .i64 0] 43)
  have hR3 := (Row.new (((w.alloc (.cells (r.cells a len cap) 27)).alloc (.cells #[.int .i64 0, .int .i64 0] 43)).alloc (.cells #[.int .i64 0, .int .i64 0] 43)) 43 #[.int .i64 0, .int .i64 0]).alloc (.cells #[.int .i64 0, .int .i64 0] 43)
  have hR4 := Row.new ((((w.alloc (.cells (r.cells a len cap) 27)).alloc (.cells #[.int .i64 0, .int .i64 0] 43)).alloc (.cells #[.int .i64 0, .int .i64 0] 43)).alloc (.cells #[.int .i64 0, .int .i64 0] 43)) 43 #[.int .i64 0, .int .i64 0]
  simp only [World.size_alloc] at hR1 hR2 hR3 hR4 hsz1 hol
  have q0 := hR0.below (by simp; omega) hb1
  have q2 := hR1.below (by simp) hb1
  have q1 := hR2.below (by simp) hb1
  have q3 := hR3.below (by simp) hb1
  have q4 := hR4.below (by simp) hb1
  have hBB := hB.trans (hb1.mono (by simp; omega))
  clear hR0 hR1 hR2 hR3 hR4 hB hb1
  have HBB := Lib.hid hBB
  have c0 := q0.cell 0
  have c6 := q0.cell 6
  simp at c0 c6
  have r0 := fun dd os => cell_regrown c0 dd os
  have r6 := fun dd os => cell_regrown c6 dd os
  have hpop := bits_ones _ hw0
  have hp64 : pop (r.h 0) ≤ 64 := pop_le _
  have ew : IntKind.i64.wrap (4 * ((pop (r.h 0) : Nat) : Int)) = 4 * ((pop (r.h 0) : Nat) : Int) := by rw [IntKind.wrap_i64]; omega
  generalize hpp : pop (r.h 0) = np at *
  have HPP := Lib.hid hpp
  clear hpp
  go_wp2
  refine wp_region_quiet_below (by kernel_rfl) (by kernel_rfl) ?_
  repeat (quiet_step ((exact Calls.regrown_of ((hpop _).mono fun _ _ ⟨he, hw⟩ => ⟨he, hw ▸ Below.refl _ _⟩))))
  refine wpQuiet_nil ?_
  rintro _ ⟨p, rfl⟩
  clear r0 r6 c0 c6 ew
  have hb3 := below_regrown w1 p.d p.os
  generalize grow (redrawn w1 p.d) p.os = w3 at *
  have q0' := q0.below q0.lt hb3
  have q1' := q1.below q1.lt hb3
  have q2' := q2.below q2.lt hb3
  have q3' := q3.below q3.lt hb3
  have q4' := q4.below q4.lt hb3
  have hol3 := hol.below hb3
  have hB3 := hBB.trans (hb3.mono (by omega))
  have hsz3 : w.heap.size + 1 + 1 + 1 + 1 + 1 ≤ w3.heap.size := Nat.le_trans hsz1 hb3.size
  clear q0 q1 q2 q3 q4 hol hBB hb3
  have hop : len < 4 * np := HOPN.out
  have hcnt := Lib.hid (show r.cnt = ((0, 0), (0, 0), 132) by unfold Rc.cnt; rw [HPP.out, HL.out, if_pos hop])
  have hop' : decide ((len : Int) < 4 * (np : Int)) = true := by simp; omega
  rw [hop']
  clear hop'
  have z30 := q3'.cell 0
  have z31 := q3'.cell 1
  have z40 := q4'.cell 0
  have z41 := q4'.cell 1
  have s10 := q1'.cell 0
  have s11 := q1'.cell 1
  have s20 := q2'.cell 0
  have s21 := q2'.cell 1
  have f10 := q1'.frozen 0
  have f11 := q1'.frozen 1
  have f20 := q2'.frozen 0
  have f21 := q2'.frozen 1
  simp at z30 z31 z40 z41 s10 s11 s20 s21
  have HB3 := Lib.hid hB3
  clear hB3 hop
  go_wp2
  go_region
  go_wp2
  refine bodyPost_ret (v := .tuple #[.agg #[.int .i64 0, .int .i64 0], .agg #[.int .i64 0, .int .i64 0], .int .i64 132]) (by simp [results, Try.results36, go_sem, s10, s11, s20, s21]) rfl ⟨by rw [hcnt.out]; rfl, ?_⟩
  exact ((((HB3.out.setCell (by simp) _).setCell (by simp) _).setCell (by simp; omega) _).setCell (by simp; omega) _).drew
set_option maxHeartbeats 4000000 in
set_option maxRecDepth 100000 in
theorem rev_count_t (r : Rc) (a : Option Addr) (len cap : Nat) (w : World) (hok : r.ok len cap) (hz : Byt w a len r.zs) (hab : ∀ ad, a = some ad → ad.block < w.heap.size) (hd : r.dealt = true) (hE : r.rightV = (-1, 0)) (h60 : len ≤ 60000) (hnop : ¬ len < 4 * pop (r.h 0)) (hs0 : sideV (findAll r.rnds) 0 = true) (hs1 : sideV (findAll r.rnds) 1 = true) :
    Calls Try.prog 36 #[r.v a len cap] w fun e w' => e = .returned (.tuple #[pairV r.cnt.1, pairV r.cnt.2.1, .int .i64 (r.cnt.2.2 : Int)]) ∧ Below w.heap.size w w' := by
  have HFI : Hid (∀ w1, Below w.heap.size w w1 → Calls Try.prog 21 #[r.v a len cap] w1 fun e w' => ∃ v, e = .returned (.tuple #[v, .int .i64 0]) ∧ OwnV w' w1.heap.size v (findAll r.rnds) ∧ Below w1.heap.size w1 w') :=
    fun w1 hb => rev_find_ok r a len cap w1 hok (hz.below (Nat.le_refl _) hb) (fun ad h => Nat.lt_of_lt_of_le (hab ad h) hb.size) hd hE h60
  have HWI : Hid (∀ w1, Below w.heap.size w w1 → Calls Try.prog 18 #[r.v a len cap] w1 fun e w' => ∃ v, e = .returned (.tuple #[v, .int .i64 0]) ∧ OwnU w' w1.heap.size v (winsTo r.rnds) ∧ Below w1.heap.size w1 w') :=
    fun w1 hb => rev_winners_ok r a len cap w1 hok (hz.below (Nat.le_refl _) hb) (fun ad h => Nat.lt_of_lt_of_le (hab ad h) hb.size) hd hE
  have HL := Lib.hid hz.length
  have HNOP := Lib.hid hnop
  clear hnop
  have HS0 := Lib.hid hs0
  clear hs0
  have HS1 := Lib.hid hs1
  clear hs1
  have hw0 := hok.h 0
  go_enter Try.func36, Try.ntmps36
  go_wp2_with fail
  have hB := (((((Below.refl w.heap.size w).alloc (Nat.le_refl _) (.cells (r.cells a len cap) 27)).alloc (by simp) (.cells #[.int .i64 0, .int .i64 0] 43)).alloc (by simp; omega) (.cells #[.int .i64 0, .int .i64 0] 43)).alloc (by simp; omega) (.cells #[.int .i64 0, .int .i64 0] 43)).alloc (by simp; omega) (.cells #[.int .i64 0, .int .i64 0] 43)
  refine (HFI.out _ hB).mono ?_
  rintro e w1 ⟨vl, rfl, hol, hb1⟩
  obtain ⟨al, cl, rfl, hal⟩ := hol.slice
  have hsz1 := hb1.size
  have hR0 := (((Row.new w 27 (r.cells a len cap)).alloc (.cells #[.int .i64 0, .int .i64 0] 43)).alloc (.cells #[.int .i64 0, .int .i64 0] 43)).alloc (.cells #[.int .i64 0, .int .i64 0] 43) |>.alloc (.cells #[.int .i64 0, .int .i64 0] 43)
  have hR1 := ((Row.new ((w.alloc (.cells (r.cells a len cap) 27)).alloc (.cells #[.int .i64 0, .int .i64 0] 43)) 43 #[.int .i64 0, .int .i64 0]).alloc (.cells #[.int .i64 0, .int .i64 0] 43)).alloc (.cells #[.int .i64 0, .int .i64 0] 43)
  have hR2 := ((Row.new (w.alloc (.cells (r.cells a len cap) 27)) 43 #[.int .i64 0, .int .i64 0]).alloc (.cells #[.int .i64 0, .int .i64 0] 43)).alloc (.cells #[.int .i64 0, .int .i64 0] 43) |>.alloc (.cells #[.int .i64 0, .int .i64 0] 43)
  have hR3 := (Row.new (((w.alloc (.cells (r.cells a len cap) 27)).alloc (.cells #[.int .i64 0, .int .i64 0] 43)).alloc (.cells #[.int .i64 0, .int .i64 0] 43)) 43 #[.int .i64 0, .int .i64 0]).alloc (.cells #[.int .i64 0, .int .i64 0] 43)
  have hR4 := Row.new ((((w.alloc (.cells (r.cells a len cap) 27)).alloc (.cells #[.int .i64 0, .int .i64 0] 43)).alloc (.cells #[.int .i64 0, .int .i64 0] 43)).alloc (.cells #[.int .i64 0, .int .i64 0] 43)) 43 #[.int .i64 0, .int .i64 0]
  simp only [World.size_alloc] at hR1 hR2 hR3 hR4 hsz1 hol
  have q0 := hR0.below (by simp; omega) hb1
  have q2 := hR1.below (by simp) hb1
  have q1 := hR2.below (by simp) hb1
  have q3 := hR3.below (by simp) hb1
  have q4 := hR4.below (by simp) hb1
  have hBB := hB.trans (hb1.mono (by simp; omega))
  clear hR0 hR1 hR2 hR3 hR4 hB hb1
  have HBB := Lib.hid hBB
  have c0 := q0.cell 0
  have c6 := q0.cell 6
  simp at c0 c6
  have r0 := fun dd os => cell_regrown c0 dd os
  have r6 := fun dd os => cell_regrown c6 dd os
  have hpop := bits_ones _ hw0
  have hp64 : pop (r.h 0) ≤ 64 := pop_le _
  have ew : IntKind.i64.wrap (4 * ((pop (r.h 0) : Nat) : Int)) = 4 * ((pop (r.h 0) : Nat) : Int) := by rw [IntKind.wrap_i64]; omega
  generalize hpp : pop (r.h 0) = np at *
  have HPP := Lib.hid hpp
  clear hpp
  go_wp2
  refine wp_region_quiet_below (by kernel_rfl) (by kernel_rfl) ?_
  repeat (quiet_step ((exact Calls.regrown_of ((hpop _).mono fun _ _ ⟨he, hw⟩ => ⟨he, hw ▸ Below.refl _ _⟩))))
  refine wpQuiet_nil ?_
  rintro _ ⟨p, rfl⟩
  clear r0 r6 c0 c6 ew
  have hb3 := below_regrown w1 p.d p.os
  generalize grow (redrawn w1 p.d) p.os = w3 at *
  have q0' := q0.below q0.lt hb3
  have q1' := q1.below q1.lt hb3
  have q2' := q2.below q2.lt hb3
  have q3' := q3.below q3.lt hb3
  have q4' := q4.below q4.lt hb3
  have hol3 := hol.below hb3
  have hB3 := hBB.trans (hb3.mono (by omega))
  have hsz3 : w.heap.size + 1 + 1 + 1 + 1 + 1 ≤ w3.heap.size := Nat.le_trans hsz1 hb3.size
  clear q0 q1 q2 q3 q4 hol hBB hb3
  have hop : ¬ len < 4 * np := HNOP.out
  have hop' : decide ((len : Int) < 4 * (np : Int)) = false := by simp; omega
  rw [hop']
  clear hop'
  have hcnt := Lib.hid (show r.cnt = ((if sideV (findAll r.rnds) 0 && sideV (findAll r.rnds) 1 then (0, 0) else ((cntAll r.d (winsTo r.rnds) (findAll r.rnds)).s0, (cntAll r.d (winsTo r.rnds) (findAll r.rnds)).s1)), (wonV (winsTo r.rnds) 0 0, wonV (winsTo r.rnds) 1 0), 0) by unfold Rc.cnt; rw [HPP.out, HL.out, if_neg hop])
  have hWc := HWI.out w3 hB3
  have c0 := q0'.cell 0
  have c1 := q0'.cell 1
  have c2 := q0'.cell 2
  have c3 := q0'.cell 3
  have c4 := q0'.cell 4
  have c5 := q0'.cell 5
  have c6 := q0'.cell 6
  simp at c0 c1 c2 c3 c4 c5 c6
  have HWC := Lib.hid hWc
  clear hWc hop
  go_wp2_with fail
  refine HWC.out.mono ?_
  rintro e w4 ⟨vw, rfl, how, hb4⟩
  clear c0 c1 c2 c3 c4 c5 c6
  have p0 := q0'.below q0'.lt hb4
  have p1 := q1'.below q1'.lt hb4
  have p2 := q2'.below q2'.lt hb4
  have p3 := q3'.below q3'.lt hb4
  have p4 := q4'.below q4'.lt hb4
  have hol4 := hol3.below hb4
  have hB4 := hB3.trans (hb4.mono (by omega))
  have hsz4 : w.heap.size + 1 + 1 + 1 + 1 + 1 ≤ w4.heap.size := Nat.le_trans hsz3 hb4.size
  clear q0' q1' q2' q3' q4' hol3 hB3 hb4
  obtain ⟨aw, cw, rfl, hnilw, hlcw, hmxw, habw, hbw⟩ := how.byt (wins_len hz (List.prefix_refl _)) (wins_byte hok)
  have hwl := wins_len hz (List.prefix_refl r.rnds)
  have hll : (findAll r.rnds).length ≤ 60000 := by
    have h1 := findAll_len r.rnds
    have h2 := sumTo_le (List.prefix_refl r.rnds)
    have h3 := HL.out
    omega
  clear how
  have HHW := Lib.hid hbw
  have HET : Hid (∀ v ∈ findAll r.rnds, v.est = true → v.trick < (winsTo r.rnds).length) := est_trick r
  generalize hws : winsTo r.rnds = ws at *
  generalize hls : findAll r.rnds = ls at *
  clear hws hls
  have hwon : ∀ (s : Nat) w', Below w4.heap.size w4 w' → Calls Try.prog 52 #[.slice aw ws.length cw, .int .u8 (s : Int), .int .i64 0] w' fun e w'' => e = .returned (.int .i64 (wonV ws s 0 : Int)) ∧ w' = w'' :=
    fun s w' hb => rev_won ws s 0 aw ws.length cw w' (hbw.below (Nat.le_refl _) hb) hlcw (Nat.zero_le _) hnilw
  have hw0 := hwon 0 w4 (Below.refl _ _)
  have hw1 := hwon 1 w4 (Below.refl _ _)
  have HWON := Lib.hid hwon
  clear hwon hbw
  have z40 := p4.cell 0
  have z41 := p4.cell 1
  have f40 := p4.frozen 0
  have f41 := p4.frozen 1
  simp at z40 z41
  have HW0 := Lib.hid hw0
  have HW1 := Lib.hid hw1
  clear hw0 hw1
  go_wp2_with fail
  refine HW0.out.mono ?_
  rintro e w' ⟨rfl, rfl⟩
  go_wp2_with fail
  refine HW1.out.mono ?_
  rintro e w' ⟨rfl, rfl⟩
  go_wp2_with fail
  obtain ⟨w5, hw5⟩ : ∃ w5, w5 = (w4.setCell ⟨w.heap.size + 1 + 1 + 1 + 1, 0, none⟩ (.int .i64 (wonV ws 0 0 : Int))).setCell ⟨w.heap.size + 1 + 1 + 1 + 1, 1, none⟩ (.int .i64 (wonV ws 1 0 : Int)) := ⟨_, rfl⟩
  rw [← hw5]
  have hk5 : Kept (fun b => b ≠ w.heap.size + 1 + 1 + 1 + 1) w4 w5 := by rw [hw5]; exact ((Kept.refl _ w4).setCell (by simp) _).setCell (by simp) _
  have t0 := p0.kept (by omega) hk5
  have t1 := p1.kept (by omega) hk5
  have t2 := p2.kept (by omega) hk5
  have t3 := p3.kept (by omega) hk5
  have t4 : Row w5 (w.heap.size + 1 + 1 + 1 + 1) 43 #[.int .i64 (wonV ws 0 0 : Int), .int .i64 (wonV ws 1 0 : Int)] := by
    rw [hw5]
    exact (p4.set 0 (.int .i64 (wonV ws 0 0 : Int))).set 1 (.int .i64 (wonV ws 1 0 : Int))
  have hol5 := hol4.keptS (fun g he => by have := (hol4.row he).1; omega) hk5
  have hbw5 := HHW.out.kept (fun ad h => by have := (habw ad h).1; omega) hk5
  have hsz5 : w.heap.size + 1 + 1 + 1 + 1 + 1 ≤ w5.heap.size := Nat.le_trans hsz4 hk5.size
  have hB5 : Below w.heap.size w w5 := by rw [hw5]; exact (hB4.setCell (by simp; omega) _).setCell (by simp; omega) _
  have habw5 : ∀ ad, aw = some ad → w.heap.size + 1 + 1 + 1 + 1 + 1 ≤ ad.block ∧ ad.block < w5.heap.size := fun ad h => ⟨Nat.le_trans hsz3 (habw ad h).1, Nat.lt_of_lt_of_le (habw ad h).2 hk5.size⟩
  clear hw5 hk5 p0 p1 p2 p3 p4 hol4 hB4 hsz4 habw z40 z41 f40 f41 HHW HW0 HW1 HWON
  have hsid := rev_sides_any ls _ (.slice al ls.length cl) w5 hol5 hll
  generalize ha0 : sideV ls 0 = b0 at *
  generalize ha1 : sideV ls 1 = b1 at *
  have HA0 := Lib.hid ha0
  have HA1 := Lib.hid ha1
  clear ha0 ha1
  refine hsid.mono ?_
  rintro e w6 ⟨rfl, hb6⟩
  have p0 := t0.below t0.lt hb6
  have p1 := t1.below t1.lt hb6
  have p2 := t2.below t2.lt hb6
  have p3 := t3.below t3.lt hb6
  have p4 := t4.below t4.lt hb6
  have hol6 := hol5.below hb6
  have hbw6 := hbw5.below (Nat.le_refl _) hb6
  have hB6 := hB5.trans (hb6.mono (by omega))
  have hsz6 : w.heap.size + 1 + 1 + 1 + 1 + 1 ≤ w6.heap.size := Nat.le_trans hsz5 hb6.size
  have habw6 : ∀ ad, aw = some ad → w.heap.size + 1 + 1 + 1 + 1 + 1 ≤ ad.block ∧ ad.block < w6.heap.size := fun ad h => ⟨(habw5 ad h).1, Nat.lt_of_lt_of_le (habw5 ad h).2 hb6.size⟩
  clear t0 t1 t2 t3 t4 hol5 hbw5 hB5 hb6 hsid hsz5 habw5
  have HB6 := Lib.hid hB6
  have HABW := Lib.hid habw6
  have HBW := Lib.hid hbw6
  have HOL := Lib.hid hol6
  clear hB6 habw6 hbw6 hol6
  obtain rfl : b0 = true := HS0.out
  obtain rfl : b1 = true := HS1.out
  have hcn := Lib.hid (show r.cnt = ((0, 0), (wonV ws 0 0, wonV ws 1 0), 0) by rw [hcnt.out]; rfl)
  have a1 := p1.alloc (.cells #[.bool true, .bool true] 52)
  have a2 := p2.alloc (.cells #[.bool true, .bool true] 52)
  have a3 := p3.alloc (.cells #[.bool true, .bool true] 52)
  have a4 := p4.alloc (.cells #[.bool true, .bool true] 52)
  have z30 := a3.cell 0
  have z31 := a3.cell 1
  have z40 := a4.cell 0
  have z41 := a4.cell 1
  have s10 := a1.cell 0
  have s11 := a1.cell 1
  have s20 := a2.cell 0
  have s21 := a2.cell 1
  have f10 := a1.frozen 0
  have f11 := a1.frozen 1
  have f20 := a2.frozen 0
  have f21 := a2.frozen 1
  simp only [List.getElem?_toArray, List.getElem?_cons_zero, List.getElem?_cons_succ] at z30 z31 z40 z41 s10 s11 s20 s21
  clear a1 a2 a3 a4
  go_wp2
  go_region
  go_wp2
  refine bodyPost_ret (v := .tuple #[.agg #[.int .i64 0, .int .i64 0], .agg #[.int .i64 (wonV ws 0 0 : Int), .int .i64 (wonV ws 1 0 : Int)], .int .i64 0]) (by simp [results, Try.results36, go_sem, s10, s11, s20, s21]) rfl ⟨by rw [hcn.out]; rfl, ?_⟩
  exact (((((HB6.out.alloc (by omega) _).setCell (by simp) _).setCell (by simp) _).setCell (by simp; omega) _).setCell (by simp; omega) _).drew
theorem rev_count_ok (r : Rc) (a : Option Addr) (len cap : Nat) (w : World) (hok : r.ok len cap) (hz : Byt w a len r.zs) (hab : ∀ ad, a = some ad → ad.block < w.heap.size) (hd : r.dealt = true) (hE : r.rightV = (-1, 0)) (h60 : len ≤ 60000) :
    Calls Try.prog 36 #[r.v a len cap] w fun e w' => e = .returned (.tuple #[pairV r.cnt.1, pairV r.cnt.2.1, .int .i64 (r.cnt.2.2 : Int)]) ∧ Below w.heap.size w w' := by
  by_cases hnop : len < 4 * pop (r.h 0)
  · exact rev_count_o r a len cap w hok hz hab hd hE h60 hnop
  · cases hs0 : sideV (findAll r.rnds) 0 with
    | false => exact rev_count_a r a len cap w hok hz hab hd hE h60 hnop hs0
    | true =>
      cases hs1 : sideV (findAll r.rnds) 1 with
      | false => exact rev_count_b r a len cap w hok hz hab hd hE h60 hnop hs0 hs1
      | true => exact rev_count_t r a len cap w hok hz hab hd hE h60 hnop hs0 hs1
end Go.Proofs.Ytdlnilebnobllaa
