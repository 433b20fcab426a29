/- ClO, ClP in one text. -/
import Derived.Test.YtnbillhodbcfbaaDoorClN
import Derived.Test.YtnbillhodbcfbaaDoorMDpg

/- claim.Award and claim.Best over this seat's program. -/
namespace Go.Proofs.YtnbillhodbcfbaaDoor
open Go.RowKit Go.Sort Go.Shelf Go.Maps Go.WideMaps

set_option maxHeartbeats 1000000 in
set_option maxRecDepth 10000 in
theorem cl_Award_no (h : Nat → Nat) (tr ld : Nat) (ps : List Nat) (a : Option Addr) (cap : Nat) (sd : Nat) (tk : Int) (ln : List Nat) (la : Option Addr) (lcap : Nat) (hw : ∀ s, W64 (h s)) (htr : tr < 256) (hld : ld < 256) (hsd : sd < 256) (w : World) (hz : Byt w a ps.length ps) (hl : Byt w la ln.length ln) (hr : (rightB h tr ld ps && claimB sd tk ln (pop (h ((ld + ps.length) % 4)))) = false) :
    Calls Tryd.prog 24 #[.agg (posA h tr ld (.slice a ps.length cap)), .agg (cmA sd tk (.slice la ln.length lcap))] w fun e w' => e = .returned (.tuple #[.int .i64 0, .int .i64 2]) ∧ Below w.heap.size w w' := by
  have hb1 := (Below.refl w.heap.size w).alloc (Nat.le_refl _) (.cells (posA h tr ld (.slice a ps.length cap)) 27)
  have hb2 := hb1.alloc hb1.size (.cells (cmA sd tk (.slice la ln.length lcap)) 44)
  have HB := Lib.hid hb2
  have HY := Lib.hid (hz.below (Nat.le_refl _) hb2)
  have HLY := Lib.hid (hl.below (Nat.le_refl _) hb2)
  have HR := Lib.hid ((Row.new w 27 (posA h tr ld (.slice a ps.length cap))).alloc (.cells (cmA sd tk (.slice la ln.length lcap)) 44))
  have HC := Lib.hid (Row.new (w.alloc (.cells (posA h tr ld (.slice a ps.length cap)) 27)) 44 (cmA sd tk (.slice la ln.length lcap)))
  have hsz : (w.alloc (.cells (posA h tr ld (.slice a ps.length cap)) 27)).heap.size = w.heap.size + 1 := by simp
  rw [hsz] at HC
  clear hb1 hb2 hsz
  have HSU := Lib.hid (cl_Sure_no h tr ld ps a cap sd tk ln la lcap hw htr hld hsd _ HY.out HLY.out hr)
  obtain ⟨PA, hPA⟩ : ∃ A, posA h tr ld (.slice a ps.length cap) = A := ⟨_, rfl⟩
  have HPA := Lib.hid hPA
  have HZ : Hid (PA.size = 7) := Lib.hid (by rw [← hPA]; rfl)
  obtain ⟨CA, hCA⟩ : ∃ A, cmA sd tk (.slice la ln.length lcap) = A := ⟨_, rfl⟩
  have HCA := Lib.hid hCA
  have HCZ : Hid (CA.size = 3) := Lib.hid (by rw [← hCA]; rfl)
  rw [hPA] at HSU HB HR HC HY HLY ⊢
  rw [hCA] at HSU HB HR HC HY HLY ⊢
  clear hPA hCA hz hl hw hr
  go_enter Tryd.func24, Tryd.ntmps24
  go_upto_region 1 with fail
  generalize (w.alloc (.cells PA 27)).alloc (.cells CA 44) = wa at *
  go_wp2_with (first
    | refine wpList_load_row rfl 27 (.tmp 2) rfl w.heap.size rfl 27 PA (0, 0) _ HR.out Tryd.underlying27 rfl (by rw [HZ.out]; exact size_pos) ?_
    | refine wpList_load_row rfl 44 (.tmp 3) rfl (w.heap.size + 1) rfl 44 CA (0, 0) _ HC.out Tryd.underlying44 rfl (by rw [HCZ.out]; exact size_cm) ?_)
  refine HSU.out.mono ?_
  rintro e w2 ⟨rfl, hb2⟩
  have HB2 := Lib.hid (HB.out.trans (hb2.mono HB.out.size))
  clear hb2 HR HB HC
  go_wp2_with fail
  go_ret2
  exact ⟨rfl, HB2.out⟩
set_option maxHeartbeats 1000000 in
set_option maxRecDepth 10000 in
theorem cl_Award_ok (h : Nat → Nat) (tr ld : Nat) (ps : List Nat) (a : Option Addr) (cap : Nat) (sd : Nat) (tk : Int) (ln : List Nat) (la : Option Addr) (lcap : Nat) (hw : ∀ s, W64 (h s)) (htr : tr < 256) (hld : ld < 256) (hsd2 : sd < 2) (w : World) (hz : Byt w a ps.length ps) (hl : Byt w la ln.length ln) (hln : ∀ b off, la = some ⟨b, off, none⟩ → b < w.heap.size) (hT : Tab w) (q : Nat) (hq : pop (h ((ld + ps.length) % 4)) = q) (hq4 : q ≤ 4) (hr : rightB h tr ld ps = true) (hc : claimB sd tk ln q = true) (h52 : ∀ y ∈ ln, y < 52) :
    Calls Tryd.prog 24 #[.agg (posA h tr ld (.slice a ps.length cap)), .agg (cmA sd tk (.slice la ln.length lcap))] w fun e w' => e = .returned (.tuple #[.int .i64 (max (mn sd tr true [] (4 * q - ps.length) ⟨h, ld, ps⟩ : Int) (min (mn sd tr false ln (4 * q - ps.length) ⟨h, ld, ps⟩ : Int) tk)), .int .i64 0]) ∧ Below w.heap.size w w' := by
  have hb1 := (Below.refl w.heap.size w).alloc (Nat.le_refl _) (.cells (posA h tr ld (.slice a ps.length cap)) 27)
  have hb2 := hb1.alloc hb1.size (.cells (cmA sd tk (.slice la ln.length lcap)) 44)
  have HB := Lib.hid hb2
  have HY := Lib.hid (hz.below (Nat.le_refl _) hb2)
  have HLY := Lib.hid (hl.below (Nat.le_refl _) hb2)
  have HR := Lib.hid ((Row.new w 27 (posA h tr ld (.slice a ps.length cap))).alloc (.cells (cmA sd tk (.slice la ln.length lcap)) 44))
  have HC := Lib.hid (Row.new (w.alloc (.cells (posA h tr ld (.slice a ps.length cap)) 27)) 44 (cmA sd tk (.slice la ln.length lcap)))
  have hsz : (w.alloc (.cells (posA h tr ld (.slice a ps.length cap)) 27)).heap.size = w.heap.size + 1 := by simp
  rw [hsz] at HC
  clear hb1 hb2 hsz
  have hT1 := hT.below hT.pos HB.out
  have HSU := Lib.hid (cl_Sure_ok h tr ld ps a cap sd tk ln la lcap hw htr hld hsd2 _ HY.out HLY.out (fun b off e => Nat.lt_of_lt_of_le (hln b off e) HB.out.size) hT1 q hq hq4 hr hc h52)
  have HMU := Lib.hid (fun W hzW hTW => cl_Must_ok h tr ld ps a cap sd hw htr hld hsd2 W hzW hTW q hq hq4 hr)
  have HT1 := Lib.hid hT1
  obtain ⟨x, hx⟩ : ∃ r, mn sd tr true [] (4 * q - ps.length) ⟨h, ld, ps⟩ = r := ⟨_, rfl⟩
  obtain ⟨y, hy⟩ : ∃ r, mn sd tr false ln (4 * q - ps.length) ⟨h, ld, ps⟩ = r := ⟨_, rfl⟩
  rw [hx] at HMU ⊢
  rw [hy] at HSU ⊢
  obtain ⟨r, hr2⟩ : ∃ r : Int, max (x : Int) (min (y : Int) tk) = r := ⟨_, rfl⟩
  have HRV := Lib.hid hr2
  rw [hr2]
  clear hr2
  obtain ⟨PA, hPA⟩ : ∃ A, posA h tr ld (.slice a ps.length cap) = A := ⟨_, rfl⟩
  have HPA := Lib.hid hPA
  have HZ : Hid (PA.size = 7) := Lib.hid (by rw [← hPA]; rfl)
  obtain ⟨CA, hCA⟩ : ∃ A, cmA sd tk (.slice la ln.length lcap) = A := ⟨_, rfl⟩
  have HCA := Lib.hid hCA
  have HCZ : Hid (CA.size = 3) := Lib.hid (by rw [← hCA]; rfl)
  rw [hPA] at HSU HMU HB HR HC HY HLY HT1 ⊢
  rw [hCA] at HSU HB HR HC HY HLY HT1 ⊢
  clear hPA hCA hz hl hw hr hc h52 hT hT1 hq hx hy hln
  go_enter Tryd.func24, Tryd.ntmps24
  go_upto_region 1 with fail
  generalize (w.alloc (.cells PA 27)).alloc (.cells CA 44) = wa at *
  go_wp2_with (first
    | refine wpList_load_row rfl 27 (.tmp 2) rfl w.heap.size rfl 27 PA (0, 0) _ HR.out Tryd.underlying27 rfl (by rw [HZ.out]; exact size_pos) ?_
    | refine wpList_load_row rfl 44 (.tmp 3) rfl (w.heap.size + 1) rfl 44 CA (0, 0) _ HC.out Tryd.underlying44 rfl (by rw [HCZ.out]; exact size_cm) ?_)
  refine HSU.out.mono ?_
  rintro e w2 ⟨rfl, hb2⟩
  have HB2 := Lib.hid (HB.out.trans (hb2.mono HB.out.size))
  have HR2 := Lib.hid (HR.out.later hb2)
  have HC2 := Lib.hid (HC.out.later hb2)
  have HY2 := Lib.hid (HY.out.below (Nat.le_refl _) hb2)
  have HT2 := Lib.hid (HT1.out.below HT1.out.pos hb2)
  clear hb2 HR HB HC HSU HY HLY HT1
  have c0 : w2.cell? ⟨w.heap.size + 1, 0, none⟩ = some (.int .u8 (sd : Int)) := (HC2.out.cell 0).trans (by rw [← HCA.out]; rfl)
  go_wp2_with (first
    | refine wpList_load_row rfl 27 (.tmp 2) rfl w.heap.size rfl 27 PA (0, 0) _ HR2.out Tryd.underlying27 rfl (by rw [HZ.out]; exact size_pos) ?_
    | refine wpList_load_row rfl 44 (.tmp 3) rfl (w.heap.size + 1) rfl 44 CA (0, 0) _ HC2.out Tryd.underlying44 rfl (by rw [HCZ.out]; exact size_cm) ?_)
  refine (HMU.out w2 HY2.out HT2.out).mono ?_
  rintro e w3 ⟨rfl, hb3⟩
  have HB3 := Lib.hid (HB2.out.trans (hb3.mono HB2.out.size))
  have HC3 := Lib.hid (HC2.out.later hb3)
  clear hb3 HR2 HB2 HC2 c0
  have c1 : w3.cell? ⟨w.heap.size + 1, 1, none⟩ = some (.int .i64 tk) := (HC3.out.cell 1).trans (by rw [← HCA.out]; rfl)
  go_wp2_with fail
  all_goals
    go_ret2
    refine ⟨?_, HB3.out⟩
    have := HRV.out
    first
      | (rw [show r = (x : Int) by omega]; rfl)
      | (rw [show r = (y : Int) by omega]; rfl)
      | (rw [show r = tk by omega]; rfl)
set_option maxHeartbeats 1000000 in
set_option maxRecDepth 10000 in
theorem cl_Best_no (h : Nat → Nat) (tr ld : Nat) (ps : List Nat) (a : Option Addr) (cap : Nat) (sd : Nat) (hw : ∀ s, W64 (h s)) (htr : tr < 256) (hld : ld < 256) (w : World) (hz : Byt w a ps.length ps) (hr : rightB h tr ld ps = false ∨ 2 ≤ sd) :
    Calls Tryd.prog 19 #[.agg (posA h tr ld (.slice a ps.length cap)), .int .u8 (sd : Int)] w fun e w' => e = .returned (.tuple #[.int .i64 0, .int .i64 2]) ∧ Below w.heap.size w w' := by
  have hb1 := (Below.refl w.heap.size w).alloc (Nat.le_refl _) (.cells (posA h tr ld (.slice a ps.length cap)) 27)
  have HLN := Lib.hid (fun (hr : rightB h tr ld ps = false) => dm_Left_no h tr ld ps a cap hw htr hld _ (hz.below (Nat.le_refl _) hb1) hr)
  have HLY := Lib.hid (fun (hr : rightB h tr ld ps = true) => dm_Left_ok h tr ld ps a cap hw htr hld _ (hz.below (Nat.le_refl _) hb1) hr)
  have HB := Lib.hid hb1
  have HR := Lib.hid (Row.new w 27 (posA h tr ld (.slice a ps.length cap)))
  obtain ⟨PA, hPA⟩ : ∃ A, posA h tr ld (.slice a ps.length cap) = A := ⟨_, rfl⟩
  have HZ : Hid (PA.size = 7) := Lib.hid (by rw [← hPA]; rfl)
  rw [hPA] at HLN HLY HB HR ⊢
  obtain ⟨rb, hrb⟩ : ∃ b, rightB h tr ld ps = b := ⟨_, rfl⟩
  rw [hrb] at HLN HLY hr
  clear hPA hb1 hz hw hrb
  go_enter Tryd.func19, Tryd.ntmps19
  go_wp2_with (refine wpList_load_row rfl 27 (.tmp 2) rfl w.heap.size rfl 27 PA (0, 0) _ HR.out Tryd.underlying27 rfl (by rw [HZ.out]; exact size_pos) ?_)
  cases rb
  · refine (HLN.out rfl).mono ?_
    rintro e w2 ⟨rfl, hb2⟩
    have HB2 := Lib.hid (HB.out.trans (hb2.mono HB.out.size))
    clear hb2
    go_wp2_with fail
    go_ret2
    exact ⟨rfl, HB2.out⟩
  · have hsI : decide ((1 : Int) < (sd : Int)) = true := by
      rcases hr with hr | hr
      · cases hr
      · simp; omega
    clear hr
    refine (HLY.out rfl).mono ?_
    rintro e w2 ⟨rfl, hb2⟩
    have HB2 := Lib.hid (HB.out.trans (hb2.mono HB.out.size))
    clear hb2
    go_wp2_with fail
    go_ret2
    exact ⟨rfl, HB2.out⟩
/-- what a side takes by best play -/
def bestV (sd tr q n : Nat) (t : Tb) : Nat := if sd = 1 then q - val tr n t else val tr n t
set_option maxHeartbeats 1000000 in
set_option maxRecDepth 10000 in
theorem cl_Best_ok (h : Nat → Nat) (tr ld : Nat) (ps : List Nat) (a : Option Addr) (cap : Nat) (sd : Nat) (hw : ∀ s, W64 (h s)) (htr : tr < 256) (hld : ld < 256) (hsd : sd < 2) (w : World) (hz : Byt w a ps.length ps) (hT : Tab w) (q : Nat) (hq : pop (h ((ld + ps.length) % 4)) = q) (hq4 : q ≤ 4) (hr : rightB h tr ld ps = true) :
    Calls Tryd.prog 19 #[.agg (posA h tr ld (.slice a ps.length cap)), .int .u8 (sd : Int)] w fun e w' => e = .returned (.tuple #[.int .i64 (bestV sd tr q (4 * q - ps.length) ⟨h, ld, ps⟩ : Int), .int .i64 0]) ∧ Below w.heap.size w w' := by
  have hb1 := (Below.refl w.heap.size w).alloc (Nat.le_refl _) (.cells (posA h tr ld (.slice a ps.length cap)) 27)
  have HLE := Lib.hid (dm_Left_ok h tr ld ps a cap hw htr hld _ (hz.below (Nat.le_refl _) hb1) hr)
  have hRP := right_of hw hr
  rw [hq] at hRP
  have h3 : ps.length < 4 := hRP.ok.pk.2
  have hM : (4 * q - ps.length) + ps.length = 4 * q := by
    have := hRP.some
    omega
  have hvl := val_le tr (4 * q - ps.length) q ⟨h, ld, ps⟩ h3 hRP.evn hM
  have HSO := Lib.hid (fun W hzW hTW => dm_Solve_ok h tr ld ps a cap hw htr hld W hzW hTW q hq hq4 hr)
  rw [hq] at HLE
  have HB := Lib.hid hb1
  have HY := Lib.hid hz
  have HTW := Lib.hid hT
  have HR := Lib.hid (Row.new w 27 (posA h tr ld (.slice a ps.length cap)))
  obtain ⟨x, hx⟩ : ∃ r, val tr (4 * q - ps.length) ⟨h, ld, ps⟩ = r := ⟨_, rfl⟩
  have HX : Hid (bestV sd tr q (4 * q - ps.length) ⟨h, ld, ps⟩ = if sd = 1 then q - x else x) := Lib.hid (by unfold bestV; rw [hx])
  rw [hx] at HSO hvl
  obtain ⟨v, hv⟩ : ∃ r, bestV sd tr q (4 * q - ps.length) ⟨h, ld, ps⟩ = r := ⟨_, rfl⟩
  rw [hv] at HX ⊢
  obtain ⟨PA, hPA⟩ : ∃ A, posA h tr ld (.slice a ps.length cap) = A := ⟨_, rfl⟩
  have HZ : Hid (PA.size = 7) := Lib.hid (by rw [← hPA]; rfl)
  rw [hPA] at HLE HSO HB HR ⊢
  have hsI : decide ((1 : Int) < (sd : Int)) = false := by simp; omega
  clear hPA hb1 hz hw hr hRP hM hx hv hq hT h3
  go_enter Tryd.func19, Tryd.ntmps19
  go_wp2_with (refine wpList_load_row rfl 27 (.tmp 2) rfl w.heap.size rfl 27 PA (0, 0) _ HR.out Tryd.underlying27 rfl (by rw [HZ.out]; exact size_pos) ?_)
  refine HLE.out.mono ?_
  rintro e w2 ⟨rfl, hb2⟩
  have HB2 := Lib.hid (HB.out.trans (hb2.mono HB.out.size))
  have HR2 := Lib.hid (HR.out.later hb2)
  clear hb2 HB HR HLE
  go_wp2_with (refine wpList_load_row rfl 27 (.tmp 2) rfl w.heap.size rfl 27 PA (0, 0) _ HR2.out Tryd.underlying27 rfl (by rw [HZ.out]; exact size_pos) ?_)
  refine (HSO.out w2 (HY.out.below (Nat.le_refl _) HB2.out) (HTW.out.below HTW.out.pos HB2.out)).mono ?_
  rintro e w3 ⟨rfl, hb3⟩
  have HB3 := Lib.hid (HB2.out.trans (hb3.mono HB2.out.size))
  clear hb3 HR2 HB2
  by_cases h1 : sd = 1
  · have hsJ : ((sd : Int) == 1) = true := by rw [beq_iff_eq]; omega
    have hsub : IntKind.i64.wrap ((q : Int) - (x : Int)) = (q : Int) - (x : Int) := IntWalk.i64_in _ (by omega)
    clear hsI
    have HV : Hid (v = q - x) := Lib.hid (by rw [HX.out, if_pos h1])
    have HVL := Lib.hid hvl
    clear h1 hvl
    go_wp2_with fail
    go_ret2
    refine ⟨?_, HB3.out⟩
    rw [HV.out, Int.ofNat_sub HVL.out]
    try rfl
  · have hsJ : ((sd : Int) == 1) = false := by rw [beq_eq_false_iff_ne]; omega
    have HV : Hid (v = x) := Lib.hid (by rw [HX.out, if_neg h1])
    clear h1 hsI
    go_wp2_with fail
    go_ret2
    exact ⟨by rw [HV.out]; rfl, HB3.out⟩
end Go.Proofs.YtnbillhodbcfbaaDoor

/- claim.Next over this seat's program. -/
namespace Go.Proofs.YtnbillhodbcfbaaDoor
open Go.RowKit Go.Sort Go.Shelf Go.Maps Go.WideMaps

/-- the card of a line -/
def lineC (ln : List Nat) (t : Tb) : Nat := Lib.ctz 64 (lineM ln t)
theorem lineM_one {t : Tb} (h : TbOk t) (h0 : canM t ≠ 0) (ln : List Nat) : lineM ln t ≠ 0 ∧ lineL ln t = [lineC ln t] := by
  have hl := lineM_list (line := ln) h h0
  have hne : t.cards ≠ [] := by
    obtain ⟨hk, hcons⟩ := bitsList_cons (canM t) h0 (canM_w64 h)
    rw [← canM_list h, hcons]; simp
  have h1 : ∃ c, lineL ln t = [c] := by
    unfold lineL
    split
    · exact ⟨_, rfl⟩
    · cases hc : t.cards with
      | nil => exact absurd hc hne
      | cons y l => exact ⟨y, rfl⟩
  obtain ⟨c, hc⟩ := h1
  have hz : lineM ln t ≠ 0 := fun e => by
    rw [e, bitsList_zero, hc] at hl
    simp at hl
  obtain ⟨hk, hcons⟩ := bitsList_cons (lineM ln t) hz (lineM_w64 ln t)
  rw [hcons, hc] at hl
  simp at hl
  exact ⟨hz, by rw [hc, ← hl.1]; rfl⟩
/-- a chooser is made, and used once -/
def NxS (w1 : World) (sl z : Value) (vs _us : List Value) (W : World) : Prop := Below w1.heap.size w1 W ∧ match vs with
  | [] => True
  | [c] => ∃ b, c = .func (Fn.func 71) #[] #[.pointer (some ⟨b, 0, none⟩)] ∧ w1.heap.size ≤ b ∧ Row W b 25 #[sl]
  | [_, v] => v = z
  | _ => False
theorem NxS.below {w1 : World} {sl z : Value} {vs us : List Value} {W W' : World} (h : NxS w1 sl z vs us W) (hb : Below W.heap.size W W') : NxS w1 sl z vs us W' := by
  obtain ⟨h1, h2⟩ := h
  refine ⟨h1.trans (hb.mono h1.size), ?_⟩
  match vs, h2 with
  | [], _ => trivial
  | [f], ⟨x, e, h3, h4⟩ => exact ⟨x, e, h3, h4.later hb⟩
  | [_, _], h => exact h
set_option maxHeartbeats 1000000 in
set_option maxRecDepth 10000 in
theorem cl_Next_no (h : Nat → Nat) (tr ld : Nat) (ps : List Nat) (a : Option Addr) (cap : Nat) (sd : Nat) (tk : Int) (ln : List Nat) (la : Option Addr) (lcap : Nat) (hw : ∀ s, W64 (h s)) (htr : tr < 256) (hld : ld < 256) (hsd : sd < 256) (w : World) (hz : Byt w a ps.length ps) (hl : Byt w la ln.length ln) (hr : (rightB h tr ld ps && claimB sd tk ln (pop (h ((ld + ps.length) % 4)))) = false) :
    Calls Tryd.prog 22 #[.agg (posA h tr ld (.slice a ps.length cap)), .agg (cmA sd tk (.slice la ln.length lcap))] w fun e w' => e = .returned (.tuple #[.int .u8 0, .int .i64 2]) ∧ Below w.heap.size w w' := by
  have hb1 := (Below.refl w.heap.size w).alloc (Nat.le_refl _) (.cells (posA h tr ld (.slice a ps.length cap)) 27)
  have hb2 := hb1.alloc hb1.size (.cells (cmA sd tk (.slice la ln.length lcap)) 44)
  have HRI := Lib.hid (cl_Right h tr ld ps a cap sd tk ln la lcap hw htr hld hsd _ (hz.below (Nat.le_refl _) hb2) (hl.below (Nat.le_refl _) hb2))
  have HB := Lib.hid hb2
  have HR := Lib.hid ((Row.new w 27 (posA h tr ld (.slice a ps.length cap))).alloc (.cells (cmA sd tk (.slice la ln.length lcap)) 44))
  have HC := Lib.hid (Row.new (w.alloc (.cells (posA h tr ld (.slice a ps.length cap)) 27)) 44 (cmA sd tk (.slice la ln.length lcap)))
  have hsz : (w.alloc (.cells (posA h tr ld (.slice a ps.length cap)) 27)).heap.size = w.heap.size + 1 := by simp
  rw [hsz] at HC
  clear hb1 hb2 hsz
  obtain ⟨PA, hPA⟩ : ∃ A, posA h tr ld (.slice a ps.length cap) = A := ⟨_, rfl⟩
  have HPA := Lib.hid hPA
  have HZ : Hid (PA.size = 7) := Lib.hid (by rw [← hPA]; rfl)
  obtain ⟨CA, hCA⟩ : ∃ A, cmA sd tk (.slice la ln.length lcap) = A := ⟨_, rfl⟩
  have HCA := Lib.hid hCA
  have HCZ : Hid (CA.size = 3) := Lib.hid (by rw [← hCA]; rfl)
  rw [hPA] at HRI HB HR HC ⊢
  rw [hCA] at HRI HB HR HC ⊢
  rw [hr] at HRI
  clear hr
  clear hPA hCA hz hl hw
  go_enter Tryd.func22, Tryd.ntmps22
  go_upto_region 1 with fail
  generalize (w.alloc (.cells PA 27)).alloc (.cells CA 44) = wa at *
  go_wp2_with (first
    | refine wpList_load_row rfl 27 (.tmp 2) rfl w.heap.size rfl 27 PA (0, 0) _ HR.out Tryd.underlying27 rfl (by rw [HZ.out]; exact size_pos) ?_
    | refine wpList_load_row rfl 44 (.tmp 3) rfl (w.heap.size + 1) rfl 44 CA (0, 0) _ HC.out Tryd.underlying44 rfl (by rw [HCZ.out]; exact size_cm) ?_)
  refine HRI.out.mono ?_
  rintro e w2 ⟨rfl, hb2⟩
  have HB2 := Lib.hid (HB.out.trans (hb2.mono HB.out.size))
  have HR2 := Lib.hid (HR.out.later hb2)
  have HC2 := Lib.hid (HC.out.later hb2)
  clear hb2 HR HB HC
  go_wp2_with fail
  go_ret2
  exact ⟨rfl, HB2.out⟩
set_option maxHeartbeats 2000000 in
set_option maxRecDepth 10000 in
theorem cl_Next_none (h : Nat → Nat) (tr ld : Nat) (ps : List Nat) (a : Option Addr) (cap : Nat) (sd : Nat) (tk : Int) (ln : List Nat) (la : Option Addr) (lcap : Nat) (hw : ∀ s, W64 (h s)) (htr : tr < 256) (hld : ld < 256) (hsd2 : sd < 2) (w : World) (hz : Byt w a ps.length ps) (hl : Byt w la ln.length ln) (hT : Tab w) (q : Nat) (hq : pop (h ((ld + ps.length) % 4)) = q) (hr : rightB h tr ld ps = true) (hc : claimB sd tk ln q = true) (h52 : ∀ y ∈ ln, y < 52) (h0 : canM ⟨h, ld, ps⟩ = 0) :
    Calls Tryd.prog 22 #[.agg (posA h tr ld (.slice a ps.length cap)), .agg (cmA sd tk (.slice la ln.length lcap))] w fun e w' => e = .returned (.tuple #[.int .u8 0, .int .i64 6]) ∧ Below w.heap.size w w' := by
  have hsd : sd < 256 := by omega
  have hb1 := (Below.refl w.heap.size w).alloc (Nat.le_refl _) (.cells (posA h tr ld (.slice a ps.length cap)) 27)
  have hb2 := hb1.alloc hb1.size (.cells (cmA sd tk (.slice la ln.length lcap)) 44)
  have HRI := Lib.hid (cl_Right h tr ld ps a cap sd tk ln la lcap hw htr hld hsd _ (hz.below (Nat.le_refl _) hb2) (hl.below (Nat.le_refl _) hb2))
  have HB := Lib.hid hb2
  have HR := Lib.hid ((Row.new w 27 (posA h tr ld (.slice a ps.length cap))).alloc (.cells (cmA sd tk (.slice la ln.length lcap)) 44))
  have HC := Lib.hid (Row.new (w.alloc (.cells (posA h tr ld (.slice a ps.length cap)) 27)) 44 (cmA sd tk (.slice la ln.length lcap)))
  have hsz : (w.alloc (.cells (posA h tr ld (.slice a ps.length cap)) 27)).heap.size = w.heap.size + 1 := by simp
  rw [hsz] at HC
  clear hb1 hb2 hsz
  obtain ⟨PA, hPA⟩ : ∃ A, posA h tr ld (.slice a ps.length cap) = A := ⟨_, rfl⟩
  have HPA := Lib.hid hPA
  have HZ : Hid (PA.size = 7) := Lib.hid (by rw [← hPA]; rfl)
  obtain ⟨CA, hCA⟩ : ∃ A, cmA sd tk (.slice la ln.length lcap) = A := ⟨_, rfl⟩
  have HCA := Lib.hid hCA
  have HCZ : Hid (CA.size = 3) := Lib.hid (by rw [← hCA]; rfl)
  rw [hPA] at HRI HB HR HC ⊢
  rw [hCA] at HRI HB HR HC ⊢
  rw [hr, hq, hc, Bool.true_and] at HRI
  have HY := Lib.hid hz
  have HLY := Lib.hid hl
  have HSD := Lib.hid hsd2
  have H52 := Lib.hid h52
  have HTW := Lib.hid hT
  have hRP := right_of hw hr
  rw [hq] at hRP
  have h3 := hRP.ok.pk.2
  have h3' : ps.length ≤ 3 := Nat.le_of_lt_succ h3
  have HST := Lib.hid (fun W hzW => cl_start h tr ld ps a cap h3' W hzW)
  have HOK := Lib.hid hRP.ok
  have HCN := Lib.hid (fun W => cl_can ⟨h, ld, ps⟩ hRP.ok W)
  have HTN := Lib.hid (fun W => cl_turn ⟨h, ld, ps⟩ hRP.ok W)
  rw [hPA] at HST
  obtain ⟨T, hTT⟩ : ∃ t : Tb, Tb.mk h ld ps = t := ⟨_, rfl⟩
  rw [hTT] at HST HOK HCN HTN h0 
  have hul4 := T.turn_lt
  obtain ⟨TA, hTA⟩ : ∃ A, tbA T = A := ⟨_, rfl⟩
  have HTA := Lib.hid hTA
  have HTZ : Hid ((Tryd.prog.info? 87).map (·.size) = some TA.size ∧ TA.size = 10 ∧ TA.all (·.oneCell') = true) := Lib.hid (by rw [← hTA]; exact ⟨size_ct, rfl, tbA_one _⟩)
  rw [hTA] at HST HCN HTN
  obtain ⟨n, hn⟩ : ∃ n, ln.length = n := ⟨_, rfl⟩
  have HNL := Lib.hid hn
  rw [hn] at hCA HCA
  rw [h0] at HCN
  clear hPA hCA hz hl hr hw hRP h3 h3' hq hT hTT hn h52 hTA hc
  go_enter Tryd.func22, Tryd.ntmps22
  go_upto_region 1 with fail
  generalize (w.alloc (.cells PA 27)).alloc (.cells CA 44) = wa at *
  go_wp2_with (first
    | refine wpList_load_row rfl 27 (.tmp 2) rfl w.heap.size rfl 27 PA (0, 0) _ HR.out Tryd.underlying27 rfl (by rw [HZ.out]; exact size_pos) ?_
    | refine wpList_load_row rfl 44 (.tmp 3) rfl (w.heap.size + 1) rfl 44 CA (0, 0) _ HC.out Tryd.underlying44 rfl (by rw [HCZ.out]; exact size_cm) ?_)
  refine HRI.out.mono ?_
  rintro e w2 ⟨rfl, hb2⟩
  have HB2 := Lib.hid (HB.out.trans (hb2.mono HB.out.size))
  have HR2 := Lib.hid (HR.out.later hb2)
  have HC2 := Lib.hid (HC.out.later hb2)
  clear hb2 HR HB HC
  go_upto_region 3 with fail
  go_wp2_with (refine wpList_load_row rfl 27 (.tmp 2) rfl w.heap.size rfl 27 PA (0, 0) _ HR2.out Tryd.underlying27 rfl (by rw [HZ.out]; exact size_pos) ?_)
  refine (HST.out w2 (HY.out.below (Nat.le_refl _) HB2.out)).mono ?_
  rintro e w3 ⟨rfl, hb3⟩
  have HN := Lib.hid (Row.new w3 87 zeroT)
  have ha := below_setRow ((Below.refl w3.heap.size w3).alloc (Nat.le_refl _) (.cells zeroT 87)) (Nat.le_refl _) TA
  have HTR := Lib.hid (show Row ((w3.alloc (.cells zeroT 87)).setRow w3.heap.size TA) w3.heap.size 87 TA from setRow_heap _ _ _ _ _ _ HN.out)
  have HB3 := Lib.hid (HB2.out.trans ((hb3.trans (ha.mono hb3.size)).mono HB2.out.size))
  have HC3 := Lib.hid ((HC2.out.later hb3).later ha)
  clear hb3 ha HR2 HC2
  go_upto_region 4 with (refine wpList_store_row rfl 87 (.tmp 6) (.tmp 12) rfl w3.heap.size TA rfl rfl 87 _ HN.out HTZ.out.1 (by rw [HTZ.out.2.1]; rfl) HTZ.out.2.2 ?_)
  generalize (w3.alloc (.cells zeroT 87)).setRow w3.heap.size TA = w4 at *
  obtain ⟨y, hy⟩ : ∃ b, w3.heap.size = b := ⟨_, rfl⟩
  rw [hy] at HTR ⊢
  clear hy HN
  go_wp2_with (refine wpList_load_row rfl 87 (.tmp 6) rfl y rfl 87 TA (0, 0) _ HTR.out Tryd.underlying87 rfl HTZ.out.1 ?_)
  refine (HCN.out w4).mono ?_
  rintro e w5 ⟨rfl, hb5⟩
  have HB5 := Lib.hid (HB3.out.trans (hb5.mono HB3.out.size))
  have HC5 := Lib.hid (HC3.out.later hb5)
  have HT5 := Lib.hid (HTR.out.later hb5)
  clear hb5 HTR HC3
  go_wp2_with fail
  go_ret2
  exact ⟨rfl, HB5.out⟩
set_option maxHeartbeats 2000000 in
set_option maxRecDepth 10000 in
theorem cl_Next_turn (h : Nat → Nat) (tr ld : Nat) (ps : List Nat) (a : Option Addr) (cap : Nat) (sd : Nat) (tk : Int) (ln : List Nat) (la : Option Addr) (lcap : Nat) (hw : ∀ s, W64 (h s)) (htr : tr < 256) (hld : ld < 256) (hsd2 : sd < 2) (w : World) (hz : Byt w a ps.length ps) (hl : Byt w la ln.length ln) (hT : Tab w) (q : Nat) (hq : pop (h ((ld + ps.length) % 4)) = q) (hr : rightB h tr ld ps = true) (hc : claimB sd tk ln q = true) (h52 : ∀ y ∈ ln, y < 52) (h0 : canM ⟨h, ld, ps⟩ ≠ 0) (hs : (Tb.mk h ld ps).turn % 2 ≠ sd) :
    Calls Tryd.prog 22 #[.agg (posA h tr ld (.slice a ps.length cap)), .agg (cmA sd tk (.slice la ln.length lcap))] w fun e w' => e = .returned (.tuple #[.int .u8 0, .int .i64 160]) ∧ Below w.heap.size w w' := by
  have hsd : sd < 256 := by omega
  have hb1 := (Below.refl w.heap.size w).alloc (Nat.le_refl _) (.cells (posA h tr ld (.slice a ps.length cap)) 27)
  have hb2 := hb1.alloc hb1.size (.cells (cmA sd tk (.slice la ln.length lcap)) 44)
  have HRI := Lib.hid (cl_Right h tr ld ps a cap sd tk ln la lcap hw htr hld hsd _ (hz.below (Nat.le_refl _) hb2) (hl.below (Nat.le_refl _) hb2))
  have HB := Lib.hid hb2
  have HR := Lib.hid ((Row.new w 27 (posA h tr ld (.slice a ps.length cap))).alloc (.cells (cmA sd tk (.slice la ln.length lcap)) 44))
  have HC := Lib.hid (Row.new (w.alloc (.cells (posA h tr ld (.slice a ps.length cap)) 27)) 44 (cmA sd tk (.slice la ln.length lcap)))
  have hsz : (w.alloc (.cells (posA h tr ld (.slice a ps.length cap)) 27)).heap.size = w.heap.size + 1 := by simp
  rw [hsz] at HC
  clear hb1 hb2 hsz
  obtain ⟨PA, hPA⟩ : ∃ A, posA h tr ld (.slice a ps.length cap) = A := ⟨_, rfl⟩
  have HPA := Lib.hid hPA
  have HZ : Hid (PA.size = 7) := Lib.hid (by rw [← hPA]; rfl)
  obtain ⟨CA, hCA⟩ : ∃ A, cmA sd tk (.slice la ln.length lcap) = A := ⟨_, rfl⟩
  have HCA := Lib.hid hCA
  have HCZ : Hid (CA.size = 3) := Lib.hid (by rw [← hCA]; rfl)
  rw [hPA] at HRI HB HR HC ⊢
  rw [hCA] at HRI HB HR HC ⊢
  rw [hr, hq, hc, Bool.true_and] at HRI
  have HY := Lib.hid hz
  have HLY := Lib.hid hl
  have HSD := Lib.hid hsd2
  have H52 := Lib.hid h52
  have HTW := Lib.hid hT
  have hRP := right_of hw hr
  rw [hq] at hRP
  have h3 := hRP.ok.pk.2
  have h3' : ps.length ≤ 3 := Nat.le_of_lt_succ h3
  have HST := Lib.hid (fun W hzW => cl_start h tr ld ps a cap h3' W hzW)
  have HOK := Lib.hid hRP.ok
  have HCN := Lib.hid (fun W => cl_can ⟨h, ld, ps⟩ hRP.ok W)
  have HTN := Lib.hid (fun W => cl_turn ⟨h, ld, ps⟩ hRP.ok W)
  rw [hPA] at HST
  obtain ⟨T, hTT⟩ : ∃ t : Tb, Tb.mk h ld ps = t := ⟨_, rfl⟩
  rw [hTT] at HST HOK HCN HTN h0 hs 
  have hul4 := T.turn_lt
  obtain ⟨TA, hTA⟩ : ∃ A, tbA T = A := ⟨_, rfl⟩
  have HTA := Lib.hid hTA
  have HTZ : Hid ((Tryd.prog.info? 87).map (·.size) = some TA.size ∧ TA.size = 10 ∧ TA.all (·.oneCell') = true) := Lib.hid (by rw [← hTA]; exact ⟨size_ct, rfl, tbA_one _⟩)
  rw [hTA] at HST HCN HTN
  obtain ⟨n, hn⟩ : ∃ n, ln.length = n := ⟨_, rfl⟩
  have HNL := Lib.hid hn
  rw [hn] at hCA HCA
  obtain ⟨cm, hcm⟩ : ∃ c, canM T = c := ⟨_, rfl⟩
  rw [hcm] at HCN h0
  have hcmI : ((cm : Int) == 0) = false := by rw [beq_eq_false_iff_ne]; omega
  obtain ⟨ut, hut⟩ : ∃ z, T.turn = z := ⟨_, rfl⟩
  rw [hut] at HTN hul4
  obtain ⟨rr, hrr⟩ : ∃ z, ut % 2 = z := ⟨_, rfl⟩
  have hsI : ((rr : Int) != (sd : Int)) = true := by rw [bne_iff_ne]; omega
  clear hcm hut h0 hs hPA hCA hz hl hr hw hRP h3 h3' hq hT hTT hn h52 hTA hc
  go_enter Tryd.func22, Tryd.ntmps22
  go_upto_region 1 with fail
  generalize (w.alloc (.cells PA 27)).alloc (.cells CA 44) = wa at *
  go_wp2_with (first
    | refine wpList_load_row rfl 27 (.tmp 2) rfl w.heap.size rfl 27 PA (0, 0) _ HR.out Tryd.underlying27 rfl (by rw [HZ.out]; exact size_pos) ?_
    | refine wpList_load_row rfl 44 (.tmp 3) rfl (w.heap.size + 1) rfl 44 CA (0, 0) _ HC.out Tryd.underlying44 rfl (by rw [HCZ.out]; exact size_cm) ?_)
  refine HRI.out.mono ?_
  rintro e w2 ⟨rfl, hb2⟩
  have HB2 := Lib.hid (HB.out.trans (hb2.mono HB.out.size))
  have HR2 := Lib.hid (HR.out.later hb2)
  have HC2 := Lib.hid (HC.out.later hb2)
  clear hb2 HR HB HC
  go_upto_region 3 with fail
  go_wp2_with (refine wpList_load_row rfl 27 (.tmp 2) rfl w.heap.size rfl 27 PA (0, 0) _ HR2.out Tryd.underlying27 rfl (by rw [HZ.out]; exact size_pos) ?_)
  refine (HST.out w2 (HY.out.below (Nat.le_refl _) HB2.out)).mono ?_
  rintro e w3 ⟨rfl, hb3⟩
  have HN := Lib.hid (Row.new w3 87 zeroT)
  have ha := below_setRow ((Below.refl w3.heap.size w3).alloc (Nat.le_refl _) (.cells zeroT 87)) (Nat.le_refl _) TA
  have HTR := Lib.hid (show Row ((w3.alloc (.cells zeroT 87)).setRow w3.heap.size TA) w3.heap.size 87 TA from setRow_heap _ _ _ _ _ _ HN.out)
  have HB3 := Lib.hid (HB2.out.trans ((hb3.trans (ha.mono hb3.size)).mono HB2.out.size))
  have HC3 := Lib.hid ((HC2.out.later hb3).later ha)
  clear hb3 ha HR2 HC2
  go_upto_region 4 with (refine wpList_store_row rfl 87 (.tmp 6) (.tmp 12) rfl w3.heap.size TA rfl rfl 87 _ HN.out HTZ.out.1 (by rw [HTZ.out.2.1]; rfl) HTZ.out.2.2 ?_)
  generalize (w3.alloc (.cells zeroT 87)).setRow w3.heap.size TA = w4 at *
  obtain ⟨y, hy⟩ : ∃ b, w3.heap.size = b := ⟨_, rfl⟩
  rw [hy] at HTR ⊢
  clear hy HN
  go_wp2_with (refine wpList_load_row rfl 87 (.tmp 6) rfl y rfl 87 TA (0, 0) _ HTR.out Tryd.underlying87 rfl HTZ.out.1 ?_)
  refine (HCN.out w4).mono ?_
  rintro e w5 ⟨rfl, hb5⟩
  have HB5 := Lib.hid (HB3.out.trans (hb5.mono HB3.out.size))
  have HC5 := Lib.hid (HC3.out.later hb5)
  have HT5 := Lib.hid (HTR.out.later hb5)
  clear hb5 HTR HC3
  go_upto_region 6 with fail
  have hy0 := HT5.out
  have cS : w5.cell? ⟨w.heap.size + 1, 0, none⟩ = some (.int .u8 (sd : Int)) := (HC5.out.cell 0).trans (by rw [← HCA.out]; rfl)
  have rS := fun dd os => cell_regrown cS dd os
  have hm1 : (ut : Int).tmod 2 = (rr : Int) := by rw [Int.tmod_eq_emod_of_nonneg (by omega)]; omega
  have hm2 : (ut : Int) % 2 = (rr : Int) := by omega
  have hm3 : IntKind.u8.wrap (rr : Int) = (rr : Int) := by rw [IntKind.wrap_u8]; omega
  obtain ⟨b1, hb1⟩ : ∃ b, w.heap.size + 1 = b := ⟨_, rfl⟩
  rw [hb1] at HC5 cS rS ⊢
  clear hrr
  refine wp_region_quiet_below (by kernel_rfl) (by kernel_rfl) ?_
  repeat (first
    | go_big_quiet_step (fail)
    | quiet_step (with_reducible exact Calls.regrown_of (HTN.out _))
    | (refine quiet_rowC (by rfl) 87 (.tmp 6) rfl y rfl (fun w' hw' => by obtain ⟨p, rfl⟩ := hw'; exact HT5.out.later (below_regrown _ _ _)) Tryd.underlying87 rfl HTZ.out.1 ?_))
  refine wpQuiet_nil ?_
  rintro _ ⟨qq, rfl⟩
  have hbq := below_regrown w5 qq.d qq.os
  have HB6 := Lib.hid (HB5.out.trans (hbq.mono HB5.out.size))
  have HC6 := Lib.hid (HC5.out.later hbq)
  have HT6 := Lib.hid (HT5.out.later hbq)
  clear hbq cS rS hy0
  generalize grow (redrawn w5 qq.d) qq.os = w6 at *
  go_wp2_with fail
  go_ret2
  exact ⟨rfl, HB6.out⟩
set_option maxHeartbeats 2000000 in
set_option maxRecDepth 10000 in
theorem cl_Next_ok (h : Nat → Nat) (tr ld : Nat) (ps : List Nat) (a : Option Addr) (cap : Nat) (sd : Nat) (tk : Int) (ln : List Nat) (la : Option Addr) (lcap : Nat) (hw : ∀ s, W64 (h s)) (htr : tr < 256) (hld : ld < 256) (hsd2 : sd < 2) (w : World) (hz : Byt w a ps.length ps) (hl : Byt w la ln.length ln) (hT : Tab w) (q : Nat) (hq : pop (h ((ld + ps.length) % 4)) = q) (hr : rightB h tr ld ps = true) (hc : claimB sd tk ln q = true) (h52 : ∀ y ∈ ln, y < 52) (h0 : canM ⟨h, ld, ps⟩ ≠ 0) (hs : (Tb.mk h ld ps).turn % 2 = sd) :
    Calls Tryd.prog 22 #[.agg (posA h tr ld (.slice a ps.length cap)), .agg (cmA sd tk (.slice la ln.length lcap))] w fun e w' => e = .returned (.tuple #[.int .u8 (lineC ln ⟨h, ld, ps⟩ : Int), .int .i64 0]) ∧ Below w.heap.size w w' := by
  have hsd : sd < 256 := by omega
  have hb1 := (Below.refl w.heap.size w).alloc (Nat.le_refl _) (.cells (posA h tr ld (.slice a ps.length cap)) 27)
  have hb2 := hb1.alloc hb1.size (.cells (cmA sd tk (.slice la ln.length lcap)) 44)
  have HRI := Lib.hid (cl_Right h tr ld ps a cap sd tk ln la lcap hw htr hld hsd _ (hz.below (Nat.le_refl _) hb2) (hl.below (Nat.le_refl _) hb2))
  have HB := Lib.hid hb2
  have HR := Lib.hid ((Row.new w 27 (posA h tr ld (.slice a ps.length cap))).alloc (.cells (cmA sd tk (.slice la ln.length lcap)) 44))
  have HC := Lib.hid (Row.new (w.alloc (.cells (posA h tr ld (.slice a ps.length cap)) 27)) 44 (cmA sd tk (.slice la ln.length lcap)))
  have hsz : (w.alloc (.cells (posA h tr ld (.slice a ps.length cap)) 27)).heap.size = w.heap.size + 1 := by simp
  rw [hsz] at HC
  clear hb1 hb2 hsz
  obtain ⟨PA, hPA⟩ : ∃ A, posA h tr ld (.slice a ps.length cap) = A := ⟨_, rfl⟩
  have HPA := Lib.hid hPA
  have HZ : Hid (PA.size = 7) := Lib.hid (by rw [← hPA]; rfl)
  obtain ⟨CA, hCA⟩ : ∃ A, cmA sd tk (.slice la ln.length lcap) = A := ⟨_, rfl⟩
  have HCA := Lib.hid hCA
  have HCZ : Hid (CA.size = 3) := Lib.hid (by rw [← hCA]; rfl)
  rw [hPA] at HRI HB HR HC ⊢
  rw [hCA] at HRI HB HR HC ⊢
  rw [hr, hq, hc, Bool.true_and] at HRI
  have HY := Lib.hid hz
  have HLY := Lib.hid hl
  have HSD := Lib.hid hsd2
  have H52 := Lib.hid h52
  have HTW := Lib.hid hT
  have hRP := right_of hw hr
  rw [hq] at hRP
  have h3 := hRP.ok.pk.2
  have h3' : ps.length ≤ 3 := Nat.le_of_lt_succ h3
  have HST := Lib.hid (fun W hzW => cl_start h tr ld ps a cap h3' W hzW)
  have HOK := Lib.hid hRP.ok
  have HCN := Lib.hid (fun W => cl_can ⟨h, ld, ps⟩ hRP.ok W)
  have HTN := Lib.hid (fun W => cl_turn ⟨h, ld, ps⟩ hRP.ok W)
  rw [hPA] at HST
  obtain ⟨T, hTT⟩ : ∃ t : Tb, Tb.mk h ld ps = t := ⟨_, rfl⟩
  rw [hTT] at HST HOK HCN HTN h0 hs ⊢
  have hul4 := T.turn_lt
  obtain ⟨TA, hTA⟩ : ∃ A, tbA T = A := ⟨_, rfl⟩
  have HTA := Lib.hid hTA
  have HTZ : Hid ((Tryd.prog.info? 87).map (·.size) = some TA.size ∧ TA.size = 10 ∧ TA.all (·.oneCell') = true) := Lib.hid (by rw [← hTA]; exact ⟨size_ct, rfl, tbA_one _⟩)
  rw [hTA] at HST HCN HTN
  obtain ⟨n, hn⟩ : ∃ n, ln.length = n := ⟨_, rfl⟩
  have HNL := Lib.hid hn
  rw [hn] at hCA HCA
  have HBY := Lib.hid (fun bl W hW hR => cl_byLine1 T HOK.out h0 ln H52.out bl la lcap W hW hR)
  have hz0 := (lineM_one HOK.out h0 ln).1
  have hzw := lineM_w64 ln T
  have hcd : Lib.ctz 64 (lineM ln T) = lineC ln T := rfl
  have HFI := Lib.hid (fun (W' : World) (hT : Tab W') => cl_first (lineM ln T) hzw hz0 W' hT)
  rw [hcd] at HFI
  obtain ⟨z, hzz⟩ : ∃ z, lineM ln T = z := ⟨_, rfl⟩
  obtain ⟨c, hcc⟩ : ∃ c, lineC ln T = c := ⟨_, rfl⟩
  rw [hzz] at HBY HFI
  rw [hcc] at HFI ⊢
  rw [hTA] at HBY
  clear hzz hcc hcd hz0 hzw
  obtain ⟨cm, hcm⟩ : ∃ c, canM T = c := ⟨_, rfl⟩
  rw [hcm] at HCN h0
  have hcmI : ((cm : Int) == 0) = false := by rw [beq_eq_false_iff_ne]; omega
  obtain ⟨ut, hut⟩ : ∃ z, T.turn = z := ⟨_, rfl⟩
  rw [hut] at HTN hul4
  obtain ⟨rr, hrr⟩ : ∃ z, ut % 2 = z := ⟨_, rfl⟩
  have hsI : ((rr : Int) != (sd : Int)) = false := by rw [bne_eq_false_iff_eq]; omega
  clear hcm hut h0 hs hPA hCA hz hl hr hw hRP h3 h3' hq hT hTT hn h52 hTA hc
  go_enter Tryd.func22, Tryd.ntmps22
  go_upto_region 1 with fail
  generalize (w.alloc (.cells PA 27)).alloc (.cells CA 44) = wa at *
  go_wp2_with (first
    | refine wpList_load_row rfl 27 (.tmp 2) rfl w.heap.size rfl 27 PA (0, 0) _ HR.out Tryd.underlying27 rfl (by rw [HZ.out]; exact size_pos) ?_
    | refine wpList_load_row rfl 44 (.tmp 3) rfl (w.heap.size + 1) rfl 44 CA (0, 0) _ HC.out Tryd.underlying44 rfl (by rw [HCZ.out]; exact size_cm) ?_)
  refine HRI.out.mono ?_
  rintro e w2 ⟨rfl, hb2⟩
  have HB2 := Lib.hid (HB.out.trans (hb2.mono HB.out.size))
  have HR2 := Lib.hid (HR.out.later hb2)
  have HC2 := Lib.hid (HC.out.later hb2)
  clear hb2 HR HB HC
  go_upto_region 3 with fail
  go_wp2_with (refine wpList_load_row rfl 27 (.tmp 2) rfl w.heap.size rfl 27 PA (0, 0) _ HR2.out Tryd.underlying27 rfl (by rw [HZ.out]; exact size_pos) ?_)
  refine (HST.out w2 (HY.out.below (Nat.le_refl _) HB2.out)).mono ?_
  rintro e w3 ⟨rfl, hb3⟩
  have HN := Lib.hid (Row.new w3 87 zeroT)
  have ha := below_setRow ((Below.refl w3.heap.size w3).alloc (Nat.le_refl _) (.cells zeroT 87)) (Nat.le_refl _) TA
  have HTR := Lib.hid (show Row ((w3.alloc (.cells zeroT 87)).setRow w3.heap.size TA) w3.heap.size 87 TA from setRow_heap _ _ _ _ _ _ HN.out)
  have HB3 := Lib.hid (HB2.out.trans ((hb3.trans (ha.mono hb3.size)).mono HB2.out.size))
  have HC3 := Lib.hid ((HC2.out.later hb3).later ha)
  clear hb3 ha HR2 HC2
  go_upto_region 4 with (refine wpList_store_row rfl 87 (.tmp 6) (.tmp 12) rfl w3.heap.size TA rfl rfl 87 _ HN.out HTZ.out.1 (by rw [HTZ.out.2.1]; rfl) HTZ.out.2.2 ?_)
  generalize (w3.alloc (.cells zeroT 87)).setRow w3.heap.size TA = w4 at *
  obtain ⟨y, hy⟩ : ∃ b, w3.heap.size = b := ⟨_, rfl⟩
  rw [hy] at HTR ⊢
  clear hy HN
  go_wp2_with (refine wpList_load_row rfl 87 (.tmp 6) rfl y rfl 87 TA (0, 0) _ HTR.out Tryd.underlying87 rfl HTZ.out.1 ?_)
  refine (HCN.out w4).mono ?_
  rintro e w5 ⟨rfl, hb5⟩
  have HB5 := Lib.hid (HB3.out.trans (hb5.mono HB3.out.size))
  have HC5 := Lib.hid (HC3.out.later hb5)
  have HT5 := Lib.hid (HTR.out.later hb5)
  clear hb5 HTR HC3
  go_upto_region 6 with fail
  have hy0 := HT5.out
  have cS : w5.cell? ⟨w.heap.size + 1, 0, none⟩ = some (.int .u8 (sd : Int)) := (HC5.out.cell 0).trans (by rw [← HCA.out]; rfl)
  have rS := fun dd os => cell_regrown cS dd os
  have hm1 : (ut : Int).tmod 2 = (rr : Int) := by rw [Int.tmod_eq_emod_of_nonneg (by omega)]; omega
  have hm2 : (ut : Int) % 2 = (rr : Int) := by omega
  have hm3 : IntKind.u8.wrap (rr : Int) = (rr : Int) := by rw [IntKind.wrap_u8]; omega
  obtain ⟨b1, hb1⟩ : ∃ b, w.heap.size + 1 = b := ⟨_, rfl⟩
  rw [hb1] at HC5 cS rS ⊢
  clear hrr
  refine wp_region_quiet_below (by kernel_rfl) (by kernel_rfl) ?_
  repeat (first
    | go_big_quiet_step (fail)
    | quiet_step (with_reducible exact Calls.regrown_of (HTN.out _))
    | (refine quiet_rowC (by rfl) 87 (.tmp 6) rfl y rfl (fun w' hw' => by obtain ⟨p, rfl⟩ := hw'; exact HT5.out.later (below_regrown _ _ _)) Tryd.underlying87 rfl HTZ.out.1 ?_))
  refine wpQuiet_nil ?_
  rintro _ ⟨qq, rfl⟩
  have hbq := below_regrown w5 qq.d qq.os
  have HB6 := Lib.hid (HB5.out.trans (hbq.mono HB5.out.size))
  have HC6 := Lib.hid (HC5.out.later hbq)
  have HT6 := Lib.hid (HT5.out.later hbq)
  clear hbq cS rS hy0
  generalize grow (redrawn w5 qq.d) qq.os = w6 at *
  clear hm1 hm2 hm3 hsI
  go_upto_region 8 with fail
  refine wp_region_reliesT (ChF [.pointer (some ⟨b1, 2, none⟩), .slice la n lcap, undef, .agg TA, undef, .int .u8 (c : Int), .int .u8 (c : Int), .int .i64 0] [2, 4] [] (NxS w6 (.slice la n lcap) (.int .u64 (z : Int)))) (fun _ => true) (by kernel_rfl) (by kernel_rfl) (by kernel_rfl) (by kernel_rfl) (ChF.start ⟨(Below.refl _ _).drew, trivial⟩) ?obls ?fini
  case obls =>
      refine ⟨⟨?_, ?_⟩, ⟨?_, ?_⟩, ⟨?_, ?_⟩, ⟨?_, ?_⟩, ⟨?_, ?_⟩, ⟨?_, ?_⟩, ⟨?_, ?_⟩, ⟨?_, ?_⟩, trivial⟩
      · rfl
      · rintro ρ f W ⟨vs, us, hX⟩ hfi hw hcl hf
        have f3 : ρ (.tmp 3) = .pointer (some ⟨b1, 0, none⟩) := hf.1 3 (by simp [Op.operands])
        exact ok_value (v := .pointer (some ⟨b1, 2, none⟩)) (w' := W) (by simp [execOp, f3, go_sem]) (hX.pure 0 _ (by decide) (by decide) rfl hX.st)
      · rfl
      · rintro ρ f W ⟨vs, us, hX⟩ hfi hw hcl hf
        have f22 : ρ (.tmp 22) = .pointer (some ⟨b1, 2, none⟩) := hX.val 0 _ _ (by decide) (by decide) (hf.1 22 (by simp [Op.operands])) rfl
        have ck : W.cell? ⟨b1, 2, none⟩ = some (.slice la n lcap) := ((HC6.out.later hX.st.1).cell 2).trans (by rw [← HCA.out]; rfl)
        exact ok_value (v := .slice la n lcap) (w' := W) (by simp [execOp, f22, go_sem, ck]) (hX.pure 1 _ (by decide) (by decide) rfl hX.st)
      · rfl
      · rintro ρ f W ⟨vs, us, hX⟩ hfi hw hcl hf
        have f23 : ρ (.tmp 23) = .slice la n lcap := hX.val 1 _ _ (by decide) (by decide) (hf.1 23 (by simp [Op.operands, Call.operands])) rfl
        have hl := hX.le1 0 2 rfl hfi
        obtain rfl := list0 hl
        obtain ⟨hbe, -⟩ := hX.st
        refine ok_call (f := 42) (args := #[.slice la n lcap]) (by simp [execOp, f23, hf.2.2.2, go_sem]) ((cl_byLine la n lcap W).mono ?_)
        rintro e w5 ⟨rfl, rfl⟩
        exact ⟨_, rfl, hX.step1 2 _ rfl (by decide) (by decide) ⟨hbe.alloc hbe.size _, W.heap.size, rfl, hbe.size, Row.new W 25 #[.slice la n lcap]⟩⟩
      · rfl
      · rintro ρ f W ⟨vs, us, hX⟩ hfi hw hcl hf
        have f6 : ρ (.tmp 6) = .pointer (some ⟨y, 0, none⟩) := hf.1 6 (by simp [Op.operands])
        exact ok_value (exec_load_row 87 (.tmp 6) rfl y f6 (HT6.out.later hX.st.1) Tryd.underlying87 rfl HTZ.out.1) (hX.pure 3 _ (by decide) (by decide) rfl hX.st)
      · rfl
      · rintro ρ f W ⟨vs, us, hX⟩ hfi hw hcl hf
        have g24 := hX.get1 0 2 rfl (hf.1 24 (by simp [Op.operands, Call.operands]))
        have f25 : ρ (.tmp 25) = .agg TA := hX.val 3 _ _ (by decide) (by decide) (hf.1 25 (by simp [Op.operands, Call.operands])) rfl
        have hl := hX.le1 1 4 rfl hfi
        obtain ⟨p, rfl⟩ : ∃ p, vs = [p] := ⟨_, list1 hl g24⟩
        obtain ⟨hbe, bl, rfl, hbl, hrow⟩ := hX.st
        have f24 : ρ (.tmp 24) = .func (Fn.func 71) #[] #[.pointer (some ⟨bl, 0, none⟩)] := (Option.some.inj (show some (Value.func (Fn.func 71) #[] #[.pointer (some ⟨bl, 0, none⟩)]) = some (ρ (.tmp 24)) from g24)).symm
        have hbw : Below w.heap.size w W := HB6.out.trans (hbe.mono HB6.out.size)
        have hlw : Byt W la ln.length ln := by have := HLY.out.below (Nat.le_refl _) hbw; exact this
        have hh := HBY.out bl W hlw (by rw [HNL.out]; exact hrow)
        refine ok_call (f := 71) (args := #[.agg TA, .pointer (some ⟨bl, 0, none⟩)]) ?_ ?_
        · simp [execOp, f25, f24, go_sem]
        refine hh.mono ?_
        rintro e w9 ⟨rfl, hb9⟩
        exact ⟨_, rfl, hX.step1 4 _ rfl (by decide) (by decide) ⟨hbe.trans (hb9.mono hbe.size), rfl⟩⟩
      · rfl
      · rintro ρ f W ⟨vs, us, hX⟩ hfi hw hcl hf
        have g26 := hX.get1 1 4 rfl (hf.1 26 (by simp [Op.operands, Call.operands]))
        have hbw : Below w.heap.size w W := HB6.out.trans (hX.st.1.mono HB6.out.size)
        have hv := hX.st.2
        have hlen := hX.l1
        match vs, hv, g26, hlen with
        | [_, v], hv, g26, _ =>
          have f26 : ρ (.tmp 26) = .int .u64 (z : Int) := (Option.some.inj (show some v = some (ρ (.tmp 26)) from g26)).symm.trans hv
          have hh := HFI.out W (HTW.out.below HTW.out.pos hbw)
          refine ok_call (f := 50) (args := #[.int .u64 (z : Int)]) (by simp [execOp, f26, hf.2.2.2, go_sem]) ?_
          refine hh.mono ?_
          rintro e w9 ⟨rfl, rfl⟩
          exact ⟨_, rfl, hX.pure 5 _ (by decide) (by decide) rfl hX.st⟩
      · rfl
      · rintro ρ f W ⟨vs, us, hX⟩ hfi hw hcl hf
        have f27 : ρ (.tmp 27) = .int .u8 (c : Int) := hX.val 5 _ _ (by decide) (by decide) (hf.1 27 (by simp [Op.operands])) rfl
        exact ok_value (v := .int .u8 (c : Int)) (w' := W) (by simp [execOp, f27]) (hX.pure 6 _ (by decide) (by decide) rfl hX.st)
      · rfl
      · rintro ρ f W ⟨vs, us, hX⟩ hfi hw hcl hf
        exact ok_value (v := .int .i64 0) (w' := W) (by simp [execOp, hf.2.1]) (hX.pure 7 _ (by decide) (by decide) rfl hX.st)
  case fini =>
    rintro us w8 hlen ⟨vs, us', hX⟩
    have hl0 : us.length = 8 := hlen
    match us, hl0 with
    | [y0, y1, y2, y3, y4, y5, y6, y7], _ =>
      obtain rfl : y6 = _ := hX.val 6 _ _ (by decide) (by decide) rfl rfl
      obtain rfl : y7 = _ := hX.val 7 _ _ (by decide) (by decide) rfl rfl
      have HST8 := Lib.hid hX.st.1
      clear hX hlen
      simp only [putAll, List.zip_cons_cons, List.zip_nil_right, List.foldl_cons, List.foldl_nil]
      simp only [Act.put, List.setIfInBounds_toArray, List.set_cons_succ, List.set_cons_zero]
      go_wp2_with fail
      go_ret2
      exact ⟨rfl, HB6.out.trans (HST8.out.mono HB6.out.size)⟩
end Go.Proofs.YtnbillhodbcfbaaDoor
