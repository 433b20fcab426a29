/- revoke.count over this seat's program: the loop, case b. -/
import Derived.Test.YtdlnilebnobllaaRvCntL
namespace Go.Proofs.Ytdlnilebnobllaa
open Go.RowKit Go.Shelf Go.Sort

set_option maxHeartbeats 4000000 in
set_option maxRecDepth 100000 in
theorem rev_count_b (r : Rc) (a : Option Addr) (len cap : Nat) (w : World) (hok : r.ok len cap) (hz : Byt w a len r.zs) (hab : ∀ ad, a = some ad → ad.block < w.heap.size) (hd : r.dealt = true) (hE : r.rightV = (-1, 0)) (h60 : len ≤ 60000) (hnop : ¬ len < 4 * pop (r.h 0)) (hs0 : sideV (findAll r.rnds) 0 = true) (hs1 : sideV (findAll r.rnds) 1 = false) :
    Calls Try.prog 36 #[r.v a len cap] w fun e w' => e = .returned (.tuple #[pairV r.cnt.1, pairV r.cnt.2.1, .int .i64 (r.cnt.2.2 : Int)]) ∧ Below w.heap.size w w' := by
  have HFI : Hid (∀ w1, Below w.heap.size w w1 → Calls Try.prog 21 #[r.v a len cap] w1 fun e w' => ∃ v, e = .returned (.tuple #[v, .int .i64 0]) ∧ OwnV w' w1.heap.size v (findAll r.rnds) ∧ Below w1.heap.size w1 w') :=
    fun w1 hb => rev_find_ok r a len cap w1 hok (hz.below (Nat.le_refl _) hb) (fun ad h => Nat.lt_of_lt_of_le (hab ad h) hb.size) hd hE h60
  have HWI : Hid (∀ w1, Below w.heap.size w w1 → Calls Try.prog 18 #[r.v a len cap] w1 fun e w' => ∃ v, e = .returned (.tuple #[v, .int .i64 0]) ∧ OwnU w' w1.heap.size v (winsTo r.rnds) ∧ Below w1.heap.size w1 w') :=
    fun w1 hb => rev_winners_ok r a len cap w1 hok (hz.below (Nat.le_refl _) hb) (fun ad h => Nat.lt_of_lt_of_le (hab ad h) hb.size) hd hE
  have HL := Lib.hid hz.length
  have HNOP := Lib.hid hnop
  clear hnop
  have HS0 := Lib.hid hs0
  clear hs0
  have HS1 := Lib.hid hs1
  clear hs1
  have hw0 := hok.h 0
  go_enter Try.func36, Try.ntmps36
  go_wp2_with fail
  have hB := (((((Below.refl w.heap.size w).alloc (Nat.le_refl _) (.cells (r.cells a len cap) 27)).alloc (by simp) (.cells #[.int .i64 0, .int .i64 0] 43)).alloc (by simp; omega) (.cells #[.int .i64 0, .int .i64 0] 43)).alloc (by simp; omega) (.cells #[.int .i64 0, .int .i64 0] 43)).alloc (by simp; omega) (.cells #[.int .i64 0, .int .i64 0] 43)
  refine (HFI.out _ hB).mono ?_
  rintro e w1 ⟨vl, rfl, hol, hb1⟩
  obtain ⟨al, cl, rfl, hal⟩ := hol.slice
  have hsz1 := hb1.size
  have hR0 := (((Row.new w 27 (r.cells a len cap)).alloc (.cells #[.int .i64 0, .int .i64 0] 43)).alloc (.cells #[.int .i64 0, .int .i64 0] 43)).alloc (.cells #[.int .i64 0, .int .i64 0] 43) |>.alloc (.cells #[.int .i64 0, .int .i64 0] 43)
  have hR1 := ((Row.new ((w.alloc (.cells (r.cells a len cap) 27)).alloc (.cells #[.int .i64 0, .int .i64 0] 43)) 43 #[.int .i64 0, .int .i64 0]).alloc (.cells #[.int .i64 0, .int .i64 0] 43)).alloc (.cells #[.int .i64 0, .int .i64 0] 43)
  have hR2 := ((Row.new (w.alloc (.cells (r.cells a len cap) 27)) 43 #[.int .i64 0, .int .i64 0]).alloc (.cells #[.int .i64 0, .int .i64 0] 43)).alloc (.cells #[.int .i64 0, .int .i64 0] 43) |>.alloc (.cells #[.int .i64 0, .int .i64 0] 43)
  have hR3 := (Row.new (((w.alloc (.cells (r.cells a len cap) 27)).alloc (.cells #[.int .i64 0, .int .i64 0] 43)).alloc (.cells #[.int .i64 0, .int .i64 0] 43)) 43 #[.int .i64 0, .int .i64 0]).alloc (.cells #[.int .i64 0, .int .i64 0] 43)
  have hR4 := Row.new ((((w.alloc (.cells (r.cells a len cap) 27)).alloc (.cells #[.int .i64 0, .int .i64 0] 43)).alloc (.cells #[.int .i64 0, .int .i64 0] 43)).alloc (.cells #[.int .i64 0, .int .i64 0] 43)) 43 #[.int .i64 0, .int .i64 0]
  simp only [World.size_alloc] at hR1 hR2 hR3 hR4 hsz1 hol
  have q0 := hR0.below (by simp; omega) hb1
  have q2 := hR1.below (by simp) hb1
  have q1 := hR2.below (by simp) hb1
  have q3 := hR3.below (by simp) hb1
  have q4 := hR4.below (by simp) hb1
  have hBB := hB.trans (hb1.mono (by simp; omega))
  clear hR0 hR1 hR2 hR3 hR4 hB hb1
  have HBB := Lib.hid hBB
  have c0 := q0.cell 0
  have c6 := q0.cell 6
  simp at c0 c6
  have r0 := fun dd os => cell_regrown c0 dd os
  have r6 := fun dd os => cell_regrown c6 dd os
  have hpop := bits_ones _ hw0
  have hp64 : pop (r.h 0) ≤ 64 := pop_le _
  have ew : IntKind.i64.wrap (4 * ((pop (r.h 0) : Nat) : Int)) = 4 * ((pop (r.h 0) : Nat) : Int) := by rw [IntKind.wrap_i64]; omega
  generalize hpp : pop (r.h 0) = np at *
  have HPP := Lib.hid hpp
  clear hpp
  go_wp2
  refine wp_region_quiet_below (by kernel_rfl) (by kernel_rfl) ?_
  repeat (quiet_step ((exact Calls.regrown_of ((hpop _).mono fun _ _ ⟨he, hw⟩ => ⟨he, hw ▸ Below.refl _ _⟩))))
  refine wpQuiet_nil ?_
  rintro _ ⟨p, rfl⟩
  clear r0 r6 c0 c6 ew
  have hb3 := below_regrown w1 p.d p.os
  generalize grow (redrawn w1 p.d) p.os = w3 at *
  have q0' := q0.below q0.lt hb3
  have q1' := q1.below q1.lt hb3
  have q2' := q2.below q2.lt hb3
  have q3' := q3.below q3.lt hb3
  have q4' := q4.below q4.lt hb3
  have hol3 := hol.below hb3
  have hB3 := hBB.trans (hb3.mono (by omega))
  have hsz3 : w.heap.size + 1 + 1 + 1 + 1 + 1 ≤ w3.heap.size := Nat.le_trans hsz1 hb3.size
  clear q0 q1 q2 q3 q4 hol hBB hb3
  have hop : ¬ len < 4 * np := HNOP.out
  have hop' : decide ((len : Int) < 4 * (np : Int)) = false := by simp; omega
  rw [hop']
  clear hop'
  have hcnt := Lib.hid (show r.cnt = ((if sideV (findAll r.rnds) 0 && sideV (findAll r.rnds) 1 then (0, 0) else ((cntAll r.d (winsTo r.rnds) (findAll r.rnds)).s0, (cntAll r.d (winsTo r.rnds) (findAll r.rnds)).s1)), (wonV (winsTo r.rnds) 0 0, wonV (winsTo r.rnds) 1 0), 0) by unfold Rc.cnt; rw [HPP.out, HL.out, if_neg hop])
  have hWc := HWI.out w3 hB3
  have c0 := q0'.cell 0
  have c1 := q0'.cell 1
  have c2 := q0'.cell 2
  have c3 := q0'.cell 3
  have c4 := q0'.cell 4
  have c5 := q0'.cell 5
  have c6 := q0'.cell 6
  simp at c0 c1 c2 c3 c4 c5 c6
  have HWC := Lib.hid hWc
  clear hWc hop
  go_wp2_with fail
  refine HWC.out.mono ?_
  rintro e w4 ⟨vw, rfl, how, hb4⟩
  clear c0 c1 c2 c3 c4 c5 c6
  have p0 := q0'.below q0'.lt hb4
  have p1 := q1'.below q1'.lt hb4
  have p2 := q2'.below q2'.lt hb4
  have p3 := q3'.below q3'.lt hb4
  have p4 := q4'.below q4'.lt hb4
  have hol4 := hol3.below hb4
  have hB4 := hB3.trans (hb4.mono (by omega))
  have hsz4 : w.heap.size + 1 + 1 + 1 + 1 + 1 ≤ w4.heap.size := Nat.le_trans hsz3 hb4.size
  clear q0' q1' q2' q3' q4' hol3 hB3 hb4
  obtain ⟨aw, cw, rfl, hnilw, hlcw, hmxw, habw, hbw⟩ := how.byt (wins_len hz (List.prefix_refl _)) (wins_byte hok)
  have hwl := wins_len hz (List.prefix_refl r.rnds)
  have hll : (findAll r.rnds).length ≤ 60000 := by
    have h1 := findAll_len r.rnds
    have h2 := sumTo_le (List.prefix_refl r.rnds)
    have h3 := HL.out
    omega
  clear how
  have HHW := Lib.hid hbw
  have HET : Hid (∀ v ∈ findAll r.rnds, v.est = true → v.trick < (winsTo r.rnds).length) := est_trick r
  generalize hws : winsTo r.rnds = ws at *
  generalize hls : findAll r.rnds = ls at *
  clear hws hls
  have hwon : ∀ (s : Nat) w', Below w4.heap.size w4 w' → Calls Try.prog 52 #[.slice aw ws.length cw, .int .u8 (s : Int), .int .i64 0] w' fun e w'' => e = .returned (.int .i64 (wonV ws s 0 : Int)) ∧ w' = w'' :=
    fun s w' hb => rev_won ws s 0 aw ws.length cw w' (hbw.below (Nat.le_refl _) hb) hlcw (Nat.zero_le _) hnilw
  have hw0 := hwon 0 w4 (Below.refl _ _)
  have hw1 := hwon 1 w4 (Below.refl _ _)
  have HWON := Lib.hid hwon
  clear hwon hbw
  have z40 := p4.cell 0
  have z41 := p4.cell 1
  have f40 := p4.frozen 0
  have f41 := p4.frozen 1
  simp at z40 z41
  have HW0 := Lib.hid hw0
  have HW1 := Lib.hid hw1
  clear hw0 hw1
  go_wp2_with fail
  refine HW0.out.mono ?_
  rintro e w' ⟨rfl, rfl⟩
  go_wp2_with fail
  refine HW1.out.mono ?_
  rintro e w' ⟨rfl, rfl⟩
  go_wp2_with fail
  obtain ⟨w5, hw5⟩ : ∃ w5, w5 = (w4.setCell ⟨w.heap.size + 1 + 1 + 1 + 1, 0, none⟩ (.int .i64 (wonV ws 0 0 : Int))).setCell ⟨w.heap.size + 1 + 1 + 1 + 1, 1, none⟩ (.int .i64 (wonV ws 1 0 : Int)) := ⟨_, rfl⟩
  rw [← hw5]
  have hk5 : Kept (fun b => b ≠ w.heap.size + 1 + 1 + 1 + 1) w4 w5 := by rw [hw5]; exact ((Kept.refl _ w4).setCell (by simp) _).setCell (by simp) _
  have t0 := p0.kept (by omega) hk5
  have t1 := p1.kept (by omega) hk5
  have t2 := p2.kept (by omega) hk5
  have t3 := p3.kept (by omega) hk5
  have t4 : Row w5 (w.heap.size + 1 + 1 + 1 + 1) 43 #[.int .i64 (wonV ws 0 0 : Int), .int .i64 (wonV ws 1 0 : Int)] := by
    rw [hw5]
    exact (p4.set 0 (.int .i64 (wonV ws 0 0 : Int))).set 1 (.int .i64 (wonV ws 1 0 : Int))
  have hol5 := hol4.keptS (fun g he => by have := (hol4.row he).1; omega) hk5
  have hbw5 := HHW.out.kept (fun ad h => by have := (habw ad h).1; omega) hk5
  have hsz5 : w.heap.size + 1 + 1 + 1 + 1 + 1 ≤ w5.heap.size := Nat.le_trans hsz4 hk5.size
  have hB5 : Below w.heap.size w w5 := by rw [hw5]; exact (hB4.setCell (by simp; omega) _).setCell (by simp; omega) _
  have habw5 : ∀ ad, aw = some ad → w.heap.size + 1 + 1 + 1 + 1 + 1 ≤ ad.block ∧ ad.block < w5.heap.size := fun ad h => ⟨Nat.le_trans hsz3 (habw ad h).1, Nat.lt_of_lt_of_le (habw ad h).2 hk5.size⟩
  clear hw5 hk5 p0 p1 p2 p3 p4 hol4 hB4 hsz4 habw z40 z41 f40 f41 HHW HW0 HW1 HWON
  have hsid := rev_sides_any ls _ (.slice al ls.length cl) w5 hol5 hll
  generalize ha0 : sideV ls 0 = b0 at *
  generalize ha1 : sideV ls 1 = b1 at *
  have HA0 := Lib.hid ha0
  have HA1 := Lib.hid ha1
  clear ha0 ha1
  refine hsid.mono ?_
  rintro e w6 ⟨rfl, hb6⟩
  have p0 := t0.below t0.lt hb6
  have p1 := t1.below t1.lt hb6
  have p2 := t2.below t2.lt hb6
  have p3 := t3.below t3.lt hb6
  have p4 := t4.below t4.lt hb6
  have hol6 := hol5.below hb6
  have hbw6 := hbw5.below (Nat.le_refl _) hb6
  have hB6 := hB5.trans (hb6.mono (by omega))
  have hsz6 : w.heap.size + 1 + 1 + 1 + 1 + 1 ≤ w6.heap.size := Nat.le_trans hsz5 hb6.size
  have habw6 : ∀ ad, aw = some ad → w.heap.size + 1 + 1 + 1 + 1 + 1 ≤ ad.block ∧ ad.block < w6.heap.size := fun ad h => ⟨(habw5 ad h).1, Nat.lt_of_lt_of_le (habw5 ad h).2 hb6.size⟩
  clear t0 t1 t2 t3 t4 hol5 hbw5 hB5 hb6 hsid hsz5 habw5
  have HB6 := Lib.hid hB6
  have HABW := Lib.hid habw6
  have HBW := Lib.hid hbw6
  have HOL := Lib.hid hol6
  clear hB6 habw6 hbw6 hol6
  obtain rfl : b0 = true := HS0.out
  obtain rfl : b1 = false := HS1.out
  have hcn := Lib.hid (show r.cnt = (((cntAll r.d ws ls).s0, (cntAll r.d ws ls).s1), (wonV ws 0 0, wonV ws 1 0), 0) by rw [hcnt.out]; rfl)
  have hmm := @run_makeMap Try.prog
  have hdd := dealt_d hd
  go_wp2
  obtain ⟨w7, hw7⟩ : ∃ w7, w7 = (w6.alloc (.cells #[.bool true, .bool false] 52)).alloc (.map #[] 0) := ⟨_, rfl⟩
  rw [← hw7]
  have hsz7 : w6.heap.size + 1 + 1 = w7.heap.size := by rw [hw7]; simp
  have u0 := (p0.alloc (.cells #[.bool true, .bool false] 52)).alloc (.map #[] 0)
  have u1 := (p1.alloc (.cells #[.bool true, .bool false] 52)).alloc (.map #[] 0)
  have u2 := (p2.alloc (.cells #[.bool true, .bool false] 52)).alloc (.map #[] 0)
  have u3 := (p3.alloc (.cells #[.bool true, .bool false] 52)).alloc (.map #[] 0)
  have u4 := (p4.alloc (.cells #[.bool true, .bool false] 52)).alloc (.map #[] 0)
  rw [← hw7] at u0 u1 u2 u3 u4
  have u5 : MapP w7 (w6.heap.size + 1) [] := by rw [hw7]; have := MapP.new (w6.alloc (.cells #[.bool true, .bool false] 52)); simpa using this
  have ubl : Below w.heap.size w w7 := by rw [hw7]; exact (HB6.out.alloc (by omega) _).alloc (by simp; omega) _
  have uol := (HOL.out.alloc (.cells #[.bool true, .bool false] 52)).alloc (.map #[] 0)
  rw [← hw7] at uol
  have ubw : Byt w7 aw ws.length ws := HBW.out.below (Nat.le_refl _) (by rw [hw7]; exact ((Below.refl _ _).alloc (Nat.le_refl _) _).alloc (by simp) _)
  have uab : ∀ ad, aw = some ad → w.heap.size + 1 + 1 + 1 + 1 + 1 ≤ ad.block ∧ ad.block < w6.heap.size := HABW.out
  have UAB := Lib.hid uab
  clear hw7 p0 p1 p2 p3 p4 uab
  go_loopw [12, 66] (CntRel w.heap.size (w6.heap.size + 1) ls ws r.d (fun b => b < w7.heap.size ∧ b ≠ w.heap.size + 1 + 1 + 1 ∧ b ≠ w6.heap.size + 1) w7) (fun _ i _ => ls.length - (intOf i).toNat)
  case atStart => exact ⟨0, by omega, rfl, rfl, u5, u3, ⟨by simp [cntAll], by simp [cntAll], by simp [cntAll]⟩, Kept.refl _ _, Below.refl _ _⟩
  case round =>
    obtain ⟨k, hk, rfl, rfl, hmp, hsm, hcok, hkp, hbl⟩ := hrel
    by_cases hlt : k < ls.length
    · obtain ⟨g, rfl⟩ := hal (by intro e; rw [e] at hlt; simp at hlt)
      have holr := uol.keptS (S := fun b => b < w7.heap.size ∧ b ≠ w.heap.size + 1 + 1 + 1 ∧ b ≠ w6.heap.size + 1) (fun g he => by have h1 := HOL.out.row he; have h2 := uol.row he; omega) hkp
      obtain ⟨e0, e1, e2, e3, e4⟩ := ownV_cells holr k (List.getElem?_eq_getElem hlt)
      have hstep := Lib.hid (show cntAll r.d ws (ls.take (k + 1)) = cntStep r.d ws (cntAll r.d ws (ls.take k)) ls[k] by rw [List.take_succ_eq_append_getElem hlt]; unfold cntAll; rw [List.foldl_append]; rfl)
      have het := HET.out ls[k] (List.getElem_mem hlt)
      have HETK := Lib.hid het
      clear het
      generalize ls[k] = x at *
      generalize cntAll r.d ws (ls.take k) = c at *
      go_wp2
      go_region
      have v0 : Row (((wr.alloc (.cells #[.int .i64 (x.trick : Int), .int .u8 (x.seat : Int), .int .u8 (x.suit : Int), .int .u8 (x.card : Int), .bool x.est] 50)).alloc (.cells #[.int .u8 (x.seat : Int), .int .u8 (x.suit : Int)] 116)).drew) wr.heap.size 50 #[.int .i64 (x.trick : Int), .int .u8 (x.seat : Int), .int .u8 (x.suit : Int), .int .u8 (x.card : Int), .bool x.est] := (Row.new _ _ _).alloc _
      have v1 : Row (((wr.alloc (.cells #[.int .i64 (x.trick : Int), .int .u8 (x.seat : Int), .int .u8 (x.suit : Int), .int .u8 (x.card : Int), .bool x.est] 50)).alloc (.cells #[.int .u8 (x.seat : Int), .int .u8 (x.suit : Int)] 116)).drew) (wr.heap.size + 1) 116 #[.int .u8 (x.seat : Int), .int .u8 (x.suit : Int)] := by
        have := Row.new (wr.alloc (.cells #[.int .i64 (x.trick : Int), .int .u8 (x.seat : Int), .int .u8 (x.suit : Int), .int .u8 (x.card : Int), .bool x.est] 50)) 116 #[.int .u8 (x.seat : Int), .int .u8 (x.suit : Int)]
        rwa [World.size_alloc] at this
      have hb8 : Below wr.heap.size wr (((wr.alloc (.cells #[.int .i64 (x.trick : Int), .int .u8 (x.seat : Int), .int .u8 (x.suit : Int), .int .u8 (x.card : Int), .bool x.est] 50)).alloc (.cells #[.int .u8 (x.seat : Int), .int .u8 (x.suit : Int)] 116)).drew) := (((Below.refl _ _).alloc (Nat.le_refl _) _).alloc (by simp) _).drew
      generalize (((wr.alloc (.cells #[.int .i64 (x.trick : Int), .int .u8 (x.seat : Int), .int .u8 (x.suit : Int), .int .u8 (x.card : Int), .bool x.est] 50)).alloc (.cells #[.int .u8 (x.seat : Int), .int .u8 (x.suit : Int)] 116)).drew) = w8 at *
      have hkp8 := hkp.trans (Kept.of_below hb8)
      have hbl8 := hbl.trans (hb8.mono (by have h1 := ubl.size; have h2 := hbl.size; omega))
      have hsm8 := hsm.below hsm.lt hb8
      have hmp8 := hmp.same (hb8.block _ hmp.lt)
      have rc5 := (u0.kept (by have := u0.lt; have := u3.lt; omega) hkp8).cell 5
      have x0 := v0.cell 0
      have x1 := v0.cell 1
      have x2 := v0.cell 2
      have x3 := v0.cell 3
      have x4 := v0.cell 4
      have y0 := v1.cell 0
      have y1 := v1.cell 1
      simp at rc5 x0 x1 x2 x3 x4 y0 y1
      clear e0 e1 e2 e3 e4
      cases hest : x.est
      · have hs := Lib.hid (show cntStep r.d ws c x = c by unfold cntStep; rw [if_pos (.inl hest)])
        rw [hest] at x4
        clear hest
        go_wp2
        go_roundw
        case rel => exact ⟨k + 1, by omega, by go_num, by rw [hstep.out, hs.out], by rw [hstep.out, hs.out]; exact hmp8, by rw [hstep.out, hs.out]; exact hsm8, by rw [hstep.out, hs.out]; exact hcok, hkp8, hbl8⟩
        case measure => simp [intOf]; omega
      rw [hest] at x4
      by_cases hdm : x.seat = (r.d + 2) % 4
      · have hs := Lib.hid (show cntStep r.d ws c x = c by unfold cntStep; rw [if_pos (.inr (.inl hdm))])
        have hdm' : ((x.seat : Int) == ((r.d : Int) + 2) % 4) = true := by rw [beq_iff_eq]; omega
        clear hest hdm
        go_wp2
        go_roundw
        case rel => exact ⟨k + 1, by omega, by go_num, by rw [hstep.out, hs.out], by rw [hstep.out, hs.out]; exact hmp8, by rw [hstep.out, hs.out]; exact hsm8, by rw [hstep.out, hs.out]; exact hcok, hkp8, hbl8⟩
        case measure => simp [intOf]; omega
      have hdm' : ((x.seat : Int) == ((r.d : Int) + 2) % 4) = false := by rw [beq_eq_false_iff_ne]; omega
      have hlook := map_look hmp8 x.seat x.suit
      by_cases hin : (x.seat, x.suit) ∈ c.met
      · have hs := Lib.hid (show cntStep r.d ws c x = c by unfold cntStep; rw [if_pos (.inr (.inr hin))])
        rw [decide_eq_true hin] at hlook
        clear hest hdm hin
        go_wp2
        go_roundw
        case rel => exact ⟨k + 1, by omega, by go_num, by rw [hstep.out, hs.out], by rw [hstep.out, hs.out]; exact hmp8, by rw [hstep.out, hs.out]; exact hsm8, by rw [hstep.out, hs.out]; exact hcok, hkp8, hbl8⟩
        case measure => simp [intOf]; omega
      rw [decide_eq_false hin] at hlook
      have htr : x.trick < ws.length := HETK.out hest
      obtain ⟨o, hput, hmp9⟩ := map_put hmp8 x.seat x.suit hin
      have hmlen := map_len hmp8
      have hMS : ¬ (w6.heap.size + 1 < w7.heap.size ∧ w6.heap.size + 1 ≠ w.heap.size + 1 + 1 + 1 ∧ w6.heap.size + 1 ≠ w6.heap.size + 1) := fun h => h.2.2 rfl
      have hkp9 := hkp8.putObj (l := w6.heap.size + 1) hMS o
      have hM8 := hmp8.lt
      have hrow : ∀ {B : Nat} {t : TypeId} {cs : Array Value}, Row w8 B t cs → Row (w8.putObj (w6.heap.size + 1) o) B t cs := fun h => h.same (World.putObj_heap_other (fun e => by obtain ⟨es, ck, hm, _⟩ := hmp8; rw [← e] at hm; rw [h] at hm; cases hm))
      have hbl9 : Below w.heap.size w7 (w8.putObj (w6.heap.size + 1) o) := hbl8.trans ⟨rfl, rfl, rfl, by simp [World.putObj], fun b hb => World.putObj_heap_other (by omega)⟩
      have hsm9 := hrow hsm8
      have v9 := hrow v0
      have hbw8 := ubw.kept (S := fun b => b < w7.heap.size ∧ b ≠ w.heap.size + 1 + 1 + 1 ∧ b ≠ w6.heap.size + 1) (fun ad h => by have h1 := UAB.out ad h; omega) hkp8
      have hbw9 := ubw.kept (S := fun b => b < w7.heap.size ∧ b ≠ w.heap.size + 1 + 1 + 1 ∧ b ≠ w6.heap.size + 1) (fun ad h => by have h1 := UAB.out ad h; omega) hkp9
      clear hrow
      have hs0 : cntStep r.d ws c x = { met := c.met ++ [(x.seat, x.suit)], lim := (if c.met = [] then wonV ws (x.seat % 2) x.trick else c.lim), s0 := (if x.seat % 2 = 0 then min (if c.met = [] then wonV ws (x.seat % 2) x.trick else c.lim) (c.s0 + movesV x ws) else c.s0), s1 := (if x.seat % 2 = 0 then c.s1 else min (if c.met = [] then wonV ws (x.seat % 2) x.trick else c.lim) (c.s1 + movesV x ws)) } := by
        unfold cntStep
        rw [if_neg (by rintro (h | h | h); · rw [hest] at h; cases h
                       · exact hdm h
                       · exact hin h)]
      clear hdm hin
      by_cases hme : c.met = []
      · rw [if_pos hme] at hs0
        have hml0 : ((c.met.length : Int) == 0) = true := by rw [hme]; rfl
        have hwn := rev_won ws (x.seat % 2) x.trick aw ws.length cw w8 hbw8 hlcw (by omega) hnilw
        rw [show ((x.seat % 2 : Nat) : Int) = (x.seat : Int) % 2 by omega] at hwn
        generalize wonV ws (x.seat % 2) x.trick = L at *
        have hs := Lib.hid hs0
        have HWN := Lib.hid hwn
        clear hs0 hwn hme
        have HEST0 := Lib.hid hest
        clear hest
        go_wp2_with (go_at_call 52; refine HWN.out.mono ?_; rintro e w' ⟨rfl, rfl⟩)
        have hest := HEST0.out
        have hko := cntStep_ok (d := r.d) x hcok
        rw [hs.out] at hko
        have hLle : L ≤ ws.length := hko.1
        have HKO := Lib.hid hko
        clear hko
        generalize hw9 : w8.putObj (w6.heap.size + 1) o = w9 at *
        clear hw9 hput hlook
        have hmv : Hid (∀ w', Below w9.heap.size w9 w' → Calls Try.prog 54 #[.agg #[.int .i64 (x.trick : Int), .int .u8 (x.seat : Int), .int .u8 (x.suit : Int), .int .u8 (x.card : Int), .bool true], .slice aw ws.length cw] w' fun e w'' => e = .returned (.int .i64 (movesV x ws : Int)) ∧ Below w'.heap.size w' w'') := by
          intro w' hb
          have := rev_moves ws x aw ws.length cw w' (hbw9.below (Nat.le_refl _) hb) hlcw hnilw htr
          rwa [hest] at this
        have hmv2 := movesV_le x ws
        have x0 := v9.cell 0
        have x1 := v9.cell 1
        have x2 := v9.cell 2
        have x3 := v9.cell 3
        have x4 := v9.cell 4
        have z0 := hsm9.cell 0
        have z1 := hsm9.cell 1
        simp [hest] at x0 x1 x2 x3 x4 z0 z1
        have rx0 := fun dd os => cell_regrown x0 dd os
        have rx1 := fun dd os => cell_regrown x1 dd os
        have rx2 := fun dd os => cell_regrown x2 dd os
        have rx3 := fun dd os => cell_regrown x3 dd os
        have rx4 := fun dd os => cell_regrown x4 dd os
        have rz0 := fun dd os => cell_regrown z0 dd os
        have rz1 := fun dd os => cell_regrown z1 dd os
        obtain ⟨hok1, hok2, hok3⟩ := hcok
        have HEST := Lib.hid hest
        clear hest hbw9 x0 x1 x2 x3 x4 z0 z1
        generalize movesV x ws = mv at *
        generalize hcs0 : c.s0 = s0 at *
        generalize hcs1 : c.s1 = s1 at *
        have HC0 := Lib.hid hcs0
        have HC1 := Lib.hid hcs1
        clear hcs0 hcs1
        have ew0 : IntKind.i64.wrap ((s0 : Int) + (mv : Int)) = (s0 : Int) + (mv : Int) := by rw [IntKind.wrap_i64]; omega
        have ew1 : IntKind.i64.wrap ((s1 : Int) + (mv : Int)) = (s1 : Int) + (mv : Int) := by rw [IntKind.wrap_i64]; omega
        rcases (show x.seat % 2 = 0 ∨ x.seat % 2 = 1 by omega) with hpar | hpar
        · rw [show (x.seat : Int) % 2 = 0 by omega]
          by_cases hmin : L ≤ s0 + mv
          · have hmi : (L : Int) ≤ (s0 : Int) + (mv : Int) := by omega
            refine wp_region_below_tail 11 (by kernel_rfl) (by kernel_rfl) ?_
            simp only [List.take_succ_cons, List.take_zero, List.drop_succ_cons, List.drop_zero]
            repeat (quiet_step ((exact Calls.regrown_of (hmv.out _ (below_regrown _ _ _)))))
            refine wpQuiet_nil ?_
            rintro _ ⟨p', rfl⟩
            clear rx0 rx1 rx2 rx3 rx4 rz0 rz1 ew0 ew1 hmi
            have hb10 := below_regrown w9 p'.d p'.os
            generalize grow (redrawn w9 p'.d) p'.os = w10 at *
            have hsm10 := hsm9.below hsm9.lt hb10
            have z0 := hsm10.cell 0
            have z1 := hsm10.cell 1
            have fz0 := hsm10.frozen 0
            have fz1 := hsm10.frozen 1
            simp at z0 z1
            go_wp2
            exact ⟨CntRel.next (c' := { met := c.met ++ [(x.seat, x.suit)], lim := L, s0 := _, s1 := _ }) hlt (hstep.out.trans hs.out) hmp9 hsm9 HKO.out hkp9 hbl9 hb10 (fun h => h.2.1 rfl) (by omega) 0 (.int .i64 (L : Int)) (by simp [hpar, Nat.min_eq_left hmin]), by simp [intOf]; omega⟩
          · have hmi : ¬ (L : Int) ≤ (s0 : Int) + (mv : Int) := by omega
            refine wp_region_below_tail 11 (by kernel_rfl) (by kernel_rfl) ?_
            simp only [List.take_succ_cons, List.take_zero, List.drop_succ_cons, List.drop_zero]
            repeat (quiet_step ((exact Calls.regrown_of (hmv.out _ (below_regrown _ _ _)))))
            refine wpQuiet_nil ?_
            rintro _ ⟨p', rfl⟩
            clear rx0 rx1 rx2 rx3 rx4 rz0 rz1 ew0 ew1 hmi
            have hb10 := below_regrown w9 p'.d p'.os
            generalize grow (redrawn w9 p'.d) p'.os = w10 at *
            have hsm10 := hsm9.below hsm9.lt hb10
            have z0 := hsm10.cell 0
            have z1 := hsm10.cell 1
            have fz0 := hsm10.frozen 0
            have fz1 := hsm10.frozen 1
            simp at z0 z1
            go_wp2
            exact ⟨CntRel.next (c' := { met := c.met ++ [(x.seat, x.suit)], lim := L, s0 := _, s1 := _ }) hlt (hstep.out.trans hs.out) hmp9 hsm9 HKO.out hkp9 hbl9 hb10 (fun h => h.2.1 rfl) (by omega) 0 (.int .i64 ((s0 : Int) + (mv : Int))) (by simp [hpar, Nat.min_eq_right (Nat.le_of_not_le hmin)]), by simp [intOf]; omega⟩
        · rw [show (x.seat : Int) % 2 = 1 by omega]
          by_cases hmin : L ≤ s1 + mv
          · have hmi : (L : Int) ≤ (s1 : Int) + (mv : Int) := by omega
            refine wp_region_below_tail 11 (by kernel_rfl) (by kernel_rfl) ?_
            simp only [List.take_succ_cons, List.take_zero, List.drop_succ_cons, List.drop_zero]
            repeat (quiet_step ((exact Calls.regrown_of (hmv.out _ (below_regrown _ _ _)))))
            refine wpQuiet_nil ?_
            rintro _ ⟨p', rfl⟩
            clear rx0 rx1 rx2 rx3 rx4 rz0 rz1 ew0 ew1 hmi
            have hb10 := below_regrown w9 p'.d p'.os
            generalize grow (redrawn w9 p'.d) p'.os = w10 at *
            have hsm10 := hsm9.below hsm9.lt hb10
            have z0 := hsm10.cell 0
            have z1 := hsm10.cell 1
            have fz0 := hsm10.frozen 0
            have fz1 := hsm10.frozen 1
            simp at z0 z1
            go_wp2
            exact ⟨CntRel.next (c' := { met := c.met ++ [(x.seat, x.suit)], lim := L, s0 := _, s1 := _ }) hlt (hstep.out.trans hs.out) hmp9 hsm9 HKO.out hkp9 hbl9 hb10 (fun h => h.2.1 rfl) (by omega) 1 (.int .i64 (L : Int)) (by simp [hpar, Nat.min_eq_left hmin]), by simp [intOf]; omega⟩
          · have hmi : ¬ (L : Int) ≤ (s1 : Int) + (mv : Int) := by omega
            refine wp_region_below_tail 11 (by kernel_rfl) (by kernel_rfl) ?_
            simp only [List.take_succ_cons, List.take_zero, List.drop_succ_cons, List.drop_zero]
            repeat (quiet_step ((exact Calls.regrown_of (hmv.out _ (below_regrown _ _ _)))))
            refine wpQuiet_nil ?_
            rintro _ ⟨p', rfl⟩
            clear rx0 rx1 rx2 rx3 rx4 rz0 rz1 ew0 ew1 hmi
            have hb10 := below_regrown w9 p'.d p'.os
            generalize grow (redrawn w9 p'.d) p'.os = w10 at *
            have hsm10 := hsm9.below hsm9.lt hb10
            have z0 := hsm10.cell 0
            have z1 := hsm10.cell 1
            have fz0 := hsm10.frozen 0
            have fz1 := hsm10.frozen 1
            simp at z0 z1
            go_wp2
            exact ⟨CntRel.next (c' := { met := c.met ++ [(x.seat, x.suit)], lim := L, s0 := _, s1 := _ }) hlt (hstep.out.trans hs.out) hmp9 hsm9 HKO.out hkp9 hbl9 hb10 (fun h => h.2.1 rfl) (by omega) 1 (.int .i64 ((s1 : Int) + (mv : Int))) (by simp [hpar, Nat.min_eq_right (Nat.le_of_not_le hmin)]), by simp [intOf]; omega⟩
      · rw [if_neg hme] at hs0
        have hml0 : ((c.met.length : Int) == 0) = false := by rw [beq_eq_false_iff_ne]; intro h; exact hme (List.eq_nil_of_length_eq_zero (by omega))
        generalize hLL : c.lim = L at *
        have hs := Lib.hid hs0
        clear hs0 hme hLL
        have HEST0 := Lib.hid hest
        clear hest
        go_wp2_with fail
        have hest := HEST0.out
        have hko := cntStep_ok (d := r.d) x hcok
        rw [hs.out] at hko
        have hLle : L ≤ ws.length := hko.1
        have HKO := Lib.hid hko
        clear hko
        generalize hw9 : w8.putObj (w6.heap.size + 1) o = w9 at *
        clear hw9 hput hlook
        have hmv : Hid (∀ w', Below w9.heap.size w9 w' → Calls Try.prog 54 #[.agg #[.int .i64 (x.trick : Int), .int .u8 (x.seat : Int), .int .u8 (x.suit : Int), .int .u8 (x.card : Int), .bool true], .slice aw ws.length cw] w' fun e w'' => e = .returned (.int .i64 (movesV x ws : Int)) ∧ Below w'.heap.size w' w'') := by
          intro w' hb
          have := rev_moves ws x aw ws.length cw w' (hbw9.below (Nat.le_refl _) hb) hlcw hnilw htr
          rwa [hest] at this
        have hmv2 := movesV_le x ws
        have x0 := v9.cell 0
        have x1 := v9.cell 1
        have x2 := v9.cell 2
        have x3 := v9.cell 3
        have x4 := v9.cell 4
        have z0 := hsm9.cell 0
        have z1 := hsm9.cell 1
        simp [hest] at x0 x1 x2 x3 x4 z0 z1
        have rx0 := fun dd os => cell_regrown x0 dd os
        have rx1 := fun dd os => cell_regrown x1 dd os
        have rx2 := fun dd os => cell_regrown x2 dd os
        have rx3 := fun dd os => cell_regrown x3 dd os
        have rx4 := fun dd os => cell_regrown x4 dd os
        have rz0 := fun dd os => cell_regrown z0 dd os
        have rz1 := fun dd os => cell_regrown z1 dd os
        obtain ⟨hok1, hok2, hok3⟩ := hcok
        have HEST := Lib.hid hest
        clear hest hbw9 x0 x1 x2 x3 x4 z0 z1
        generalize movesV x ws = mv at *
        generalize hcs0 : c.s0 = s0 at *
        generalize hcs1 : c.s1 = s1 at *
        have HC0 := Lib.hid hcs0
        have HC1 := Lib.hid hcs1
        clear hcs0 hcs1
        have ew0 : IntKind.i64.wrap ((s0 : Int) + (mv : Int)) = (s0 : Int) + (mv : Int) := by rw [IntKind.wrap_i64]; omega
        have ew1 : IntKind.i64.wrap ((s1 : Int) + (mv : Int)) = (s1 : Int) + (mv : Int) := by rw [IntKind.wrap_i64]; omega
        rcases (show x.seat % 2 = 0 ∨ x.seat % 2 = 1 by omega) with hpar | hpar
        · rw [show (x.seat : Int) % 2 = 0 by omega]
          by_cases hmin : L ≤ s0 + mv
          · have hmi : (L : Int) ≤ (s0 : Int) + (mv : Int) := by omega
            refine wp_region_below_tail 11 (by kernel_rfl) (by kernel_rfl) ?_
            simp only [List.take_succ_cons, List.take_zero, List.drop_succ_cons, List.drop_zero]
            repeat (quiet_step ((exact Calls.regrown_of (hmv.out _ (below_regrown _ _ _)))))
            refine wpQuiet_nil ?_
            rintro _ ⟨p', rfl⟩
            clear rx0 rx1 rx2 rx3 rx4 rz0 rz1 ew0 ew1 hmi
            have hb10 := below_regrown w9 p'.d p'.os
            generalize grow (redrawn w9 p'.d) p'.os = w10 at *
            have hsm10 := hsm9.below hsm9.lt hb10
            have z0 := hsm10.cell 0
            have z1 := hsm10.cell 1
            have fz0 := hsm10.frozen 0
            have fz1 := hsm10.frozen 1
            simp at z0 z1
            go_wp2
            exact ⟨CntRel.next (c' := { met := c.met ++ [(x.seat, x.suit)], lim := L, s0 := _, s1 := _ }) hlt (hstep.out.trans hs.out) hmp9 hsm9 HKO.out hkp9 hbl9 hb10 (fun h => h.2.1 rfl) (by omega) 0 (.int .i64 (L : Int)) (by simp [hpar, Nat.min_eq_left hmin]), by simp [intOf]; omega⟩
          · have hmi : ¬ (L : Int) ≤ (s0 : Int) + (mv : Int) := by omega
            refine wp_region_below_tail 11 (by kernel_rfl) (by kernel_rfl) ?_
            simp only [List.take_succ_cons, List.take_zero, List.drop_succ_cons, List.drop_zero]
            repeat (quiet_step ((exact Calls.regrown_of (hmv.out _ (below_regrown _ _ _)))))
            refine wpQuiet_nil ?_
            rintro _ ⟨p', rfl⟩
            clear rx0 rx1 rx2 rx3 rx4 rz0 rz1 ew0 ew1 hmi
            have hb10 := below_regrown w9 p'.d p'.os
            generalize grow (redrawn w9 p'.d) p'.os = w10 at *
            have hsm10 := hsm9.below hsm9.lt hb10
            have z0 := hsm10.cell 0
            have z1 := hsm10.cell 1
            have fz0 := hsm10.frozen 0
            have fz1 := hsm10.frozen 1
            simp at z0 z1
            go_wp2
            exact ⟨CntRel.next (c' := { met := c.met ++ [(x.seat, x.suit)], lim := L, s0 := _, s1 := _ }) hlt (hstep.out.trans hs.out) hmp9 hsm9 HKO.out hkp9 hbl9 hb10 (fun h => h.2.1 rfl) (by omega) 0 (.int .i64 ((s0 : Int) + (mv : Int))) (by simp [hpar, Nat.min_eq_right (Nat.le_of_not_le hmin)]), by simp [intOf]; omega⟩
        · rw [show (x.seat : Int) % 2 = 1 by omega]
          by_cases hmin : L ≤ s1 + mv
          · have hmi : (L : Int) ≤ (s1 : Int) + (mv : Int) := by omega
            refine wp_region_below_tail 11 (by kernel_rfl) (by kernel_rfl) ?_
            simp only [List.take_succ_cons, List.take_zero, List.drop_succ_cons, List.drop_zero]
            repeat (quiet_step ((exact Calls.regrown_of (hmv.out _ (below_regrown _ _ _)))))
            refine wpQuiet_nil ?_
            rintro _ ⟨p', rfl⟩
            clear rx0 rx1 rx2 rx3 rx4 rz0 rz1 ew0 ew1 hmi
            have hb10 := below_regrown w9 p'.d p'.os
            generalize grow (redrawn w9 p'.d) p'.os = w10 at *
            have hsm10 := hsm9.below hsm9.lt hb10
            have z0 := hsm10.cell 0
            have z1 := hsm10.cell 1
            have fz0 := hsm10.frozen 0
            have fz1 := hsm10.frozen 1
            simp at z0 z1
            go_wp2
            exact ⟨CntRel.next (c' := { met := c.met ++ [(x.seat, x.suit)], lim := L, s0 := _, s1 := _ }) hlt (hstep.out.trans hs.out) hmp9 hsm9 HKO.out hkp9 hbl9 hb10 (fun h => h.2.1 rfl) (by omega) 1 (.int .i64 (L : Int)) (by simp [hpar, Nat.min_eq_left hmin]), by simp [intOf]; omega⟩
          · have hmi : ¬ (L : Int) ≤ (s1 : Int) + (mv : Int) := by omega
            refine wp_region_below_tail 11 (by kernel_rfl) (by kernel_rfl) ?_
            simp only [List.take_succ_cons, List.take_zero, List.drop_succ_cons, List.drop_zero]
            repeat (quiet_step ((exact Calls.regrown_of (hmv.out _ (below_regrown _ _ _)))))
            refine wpQuiet_nil ?_
            rintro _ ⟨p', rfl⟩
            clear rx0 rx1 rx2 rx3 rx4 rz0 rz1 ew0 ew1 hmi
            have hb10 := below_regrown w9 p'.d p'.os
            generalize grow (redrawn w9 p'.d) p'.os = w10 at *
            have hsm10 := hsm9.below hsm9.lt hb10
            have z0 := hsm10.cell 0
            have z1 := hsm10.cell 1
            have fz0 := hsm10.frozen 0
            have fz1 := hsm10.frozen 1
            simp at z0 z1
            go_wp2
            exact ⟨CntRel.next (c' := { met := c.met ++ [(x.seat, x.suit)], lim := L, s0 := _, s1 := _ }) hlt (hstep.out.trans hs.out) hmp9 hsm9 HKO.out hkp9 hbl9 hb10 (fun h => h.2.1 rfl) (by omega) 1 (.int .i64 ((s1 : Int) + (mv : Int))) (by simp [hpar, Nat.min_eq_right (Nat.le_of_not_le hmin)]), by simp [intOf]; omega⟩
    · have hke : k = ls.length := by omega
      subst hke
      rw [List.take_length] at hmp hsm hcok ⊢
      generalize cntAll r.d ws ls = c at *
      have a1 := u1.kept (by omega) hkp
      have a2 := u2.kept (by omega) hkp
      have a4 := u4.kept (by omega) hkp
      have z30 := hsm.cell 0
      have z31 := hsm.cell 1
      have z40 := a4.cell 0
      have z41 := a4.cell 1
      have s10 := a1.cell 0
      have s11 := a1.cell 1
      have s20 := a2.cell 0
      have s21 := a2.cell 1
      have f10 := a1.frozen 0
      have f11 := a1.frozen 1
      have f20 := a2.frozen 0
      have f21 := a2.frozen 1
      simp only [List.getElem?_toArray, List.getElem?_cons_zero, List.getElem?_cons_succ] at z30 z31 z40 z41 s10 s11 s20 s21
      have hbf := ubl.trans hbl
      have HBF := Lib.hid hbf
      clear a1 a2 a4 hbf hkp hbl hsm hmp
      go_wp2
      go_region
      go_wp2
      refine bodyPost_ret (v := .tuple #[.agg #[.int .i64 (c.s0 : Int), .int .i64 (c.s1 : Int)], .agg #[.int .i64 (wonV ws 0 0 : Int), .int .i64 (wonV ws 1 0 : Int)], .int .i64 0]) (by simp [results, Try.results36, go_sem, s10, s11, s20, s21]) rfl ⟨by rw [hcn.out]; rfl, ?_⟩
      exact ((((HBF.out.setCell (by simp) _).setCell (by simp) _).setCell (by simp; omega) _).setCell (by simp; omega) _).drew
end Go.Proofs.Ytdlnilebnobllaa
