/- claim.Must and claim.Sure over this seat's program. -/
import Derived.Test.YtnbillhodbcfbaaDoorMCll
namespace Go.Proofs.YtnbillhodbcfbaaDoor
open Go.RowKit Go.Sort Go.Shelf Go.Maps Go.WideMaps

/-- the closure of claim.least is made, and used once -/
def MuS (w1 : World) (mkP : Nat → Nat → Prm) (r : Value) (vs _us : List Value) (W : World) : Prop := Below w1.heap.size w1 W ∧ match vs with
  | [] => True
  | [f] => ∃ x, f = folV x ∧ w1.heap.size ≤ x ∧ Env (mkP x 0) x 0 W
  | [_, v] => v = r
  | _ => False
theorem MuS.below {w1 : World} {mkP : Nat → Nat → Prm} {r : Value} (hP : ∀ x b, (mkP x b).ok x) {vs us : List Value} {W W' : World} (h : MuS w1 mkP r vs us W) (hb : Below W.heap.size W W') : MuS w1 mkP r vs us W' := by
  obtain ⟨h1, h2⟩ := h
  refine ⟨h1.trans (hb.mono h1.size), ?_⟩
  match vs, h2 with
  | [], _ => trivial
  | [f], ⟨x, e, h3, h4⟩ => exact ⟨x, e, h3, h4.later (hP x 0) hb⟩
  | [_, _], h => exact h
/-- as MuS, the chooser is made first -/
def SuS (w1 : World) (sl : Value) (mkP : Nat → Nat → Prm) (r : Value) (vs _us : List Value) (W : World) : Prop := Below w1.heap.size w1 W ∧ match vs with
  | [] => True
  | [c] => ∃ b, c = .func (Fn.func 71) #[] #[.pointer (some ⟨b, 0, none⟩)] ∧ w1.heap.size ≤ b ∧ Row W b 25 #[sl]
  | [_, f] => ∃ x b, f = folV x ∧ w1.heap.size ≤ x ∧ Env (mkP x b) x 0 W
  | [_, _, v] => v = r
  | _ => False
theorem SuS.below {w1 : World} {sl : Value} {mkP : Nat → Nat → Prm} {r : Value} (hP : ∀ x b, (mkP x b).ok x) {vs us : List Value} {W W' : World} (h : SuS w1 sl mkP r vs us W) (hb : Below W.heap.size W W') : SuS w1 sl mkP r vs us W' := by
  obtain ⟨h1, h2⟩ := h
  refine ⟨h1.trans (hb.mono h1.size), ?_⟩
  match vs, h2 with
  | [], _ => trivial
  | [f], ⟨x, e, h3, h4⟩ => exact ⟨x, e, h3, h4.later hb⟩
  | [_, f], ⟨x, b, e, h3, h4⟩ => exact ⟨x, b, e, h3, h4.later (hP x b) hb⟩
  | [_, _, _], h => exact h
theorem pow16 {m : Nat} (h : m ≤ 16) : 0 + 5 ^ m < maxLen := by
  rw [Nat.zero_add]
  exact Nat.lt_of_le_of_lt (Nat.pow_le_pow_right (by decide) h) (by unfold maxLen; decide)
theorem use_fol {P : Prm} {x : Nat} (hP : P.ok x) {q m r : Nat} {T : Tb} {W : World} (hg : TbG q T) (hm : m + T.cs.length = 4 * q) (hq : q ≤ 4) (hE : Env P x 0 W) (hr : P.mn m T = r) :
    Calls Tryd.prog 70 (#[.agg (tbA T)] ++ capL x) W fun e w' => e = .returned (.int .i64 (r : Int)) ∧ But W.heap.size (x + 4) W w' := by
  have h1 := cl_follow hP m
  unfold FOk at h1
  have h2 := h1 0 T q W hg hm hq hE (pow16 (by omega))
  rw [hr] at h2
  exact h2.mono fun e w' h => ⟨h.1, h.2.2⟩
theorem Byt.near {w : World} {a : Option Addr} {len : Nat} {zs : List Nat} (h : Byt w a len zs) (h0 : 0 < len) : ∀ b off, a = some ⟨b, off, none⟩ → b < w.heap.size := by
  rintro b off e
  obtain ⟨b2, off2, e2, h2, -⟩ := h.at h0
  rw [e] at e2
  injection e2 with e2
  injection e2 with e3
  omega
set_option maxHeartbeats 1000000 in
set_option maxRecDepth 10000 in
theorem cl_Must_no (h : Nat → Nat) (tr ld : Nat) (ps : List Nat) (a : Option Addr) (cap : Nat) (sd : Nat) (hw : ∀ s, W64 (h s)) (htr : tr < 256) (hld : ld < 256) (w : World) (hz : Byt w a ps.length ps) (hr : rightB h tr ld ps = false ∨ 2 ≤ sd) :
    Calls Tryd.prog 18 #[.agg (posA h tr ld (.slice a ps.length cap)), .int .u8 (sd : Int)] w fun e w' => e = .returned (.tuple #[.int .i64 0, .int .i64 2]) ∧ Below w.heap.size w w' := by
  have hb1 := (Below.refl w.heap.size w).alloc (Nat.le_refl _) (.cells (posA h tr ld (.slice a ps.length cap)) 27)
  have HRI := Lib.hid (dm_Right h tr ld ps a cap hw htr hld _ (hz.below (Nat.le_refl _) hb1))
  have HB := Lib.hid hb1
  have HR := Lib.hid (Row.new w 27 (posA h tr ld (.slice a ps.length cap)))
  obtain ⟨PA, hPA⟩ : ∃ A, posA h tr ld (.slice a ps.length cap) = A := ⟨_, rfl⟩
  have HZ : Hid (PA.size = 7) := Lib.hid (by rw [← hPA]; rfl)
  rw [hPA] at HRI HB HR ⊢
  obtain ⟨rb, hrb⟩ : ∃ b, rightB h tr ld ps = b := ⟨_, rfl⟩
  rw [hrb] at HRI hr
  clear hPA hb1 hz hw hrb
  go_enter Tryd.func18, Tryd.ntmps18
  go_wp2_with (refine wpList_load_row rfl 27 (.tmp 2) rfl w.heap.size rfl 27 PA (0, 0) _ HR.out Tryd.underlying27 rfl (by rw [HZ.out]; exact size_pos) ?_)
  refine HRI.out.mono ?_
  rintro e w2 ⟨rfl, hb2⟩
  have HB2 := Lib.hid (HB.out.trans (hb2.mono HB.out.size))
  clear hb2
  cases rb
  · go_wp2_with fail
    go_ret2
    exact ⟨rfl, HB2.out⟩
  · have hsI : decide ((1 : Int) < (sd : Int)) = true := by
      rcases hr with hr | hr
      · cases hr
      · simp; omega
    clear hr
    go_wp2_with fail
    go_ret2
    exact ⟨rfl, HB2.out⟩
set_option maxHeartbeats 2000000 in
set_option maxRecDepth 10000 in
theorem cl_Must_ok (h : Nat → Nat) (tr ld : Nat) (ps : List Nat) (a : Option Addr) (cap : Nat) (sd : Nat) (hw : ∀ s, W64 (h s)) (htr : tr < 256) (hld : ld < 256) (hsd : sd < 2) (w : World) (hz : Byt w a ps.length ps) (hT : Tab w) (q : Nat) (hq : pop (h ((ld + ps.length) % 4)) = q) (hq4 : q ≤ 4) (hr : rightB h tr ld ps = true) :
    Calls Tryd.prog 18 #[.agg (posA h tr ld (.slice a ps.length cap)), .int .u8 (sd : Int)] w fun e w' => e = .returned (.tuple #[.int .i64 (mn sd tr true [] (4 * q - ps.length) ⟨h, ld, ps⟩ : Int), .int .i64 0]) ∧ Below w.heap.size w w' := by
  have hb1 := (Below.refl w.heap.size w).alloc (Nat.le_refl _) (.cells (posA h tr ld (.slice a ps.length cap)) 27)
  have HRI := Lib.hid (dm_Right h tr ld ps a cap hw htr hld _ (hz.below (Nat.le_refl _) hb1))
  rw [hr] at HRI
  have HB := Lib.hid hb1
  have HY := Lib.hid hz
  have HR := Lib.hid (Row.new w 27 (posA h tr ld (.slice a ps.length cap)))
  have HSD := Lib.hid hsd
  have hRP := right_of hw hr
  rw [hq] at hRP
  have h3 := hRP.ok.pk.2
  have h3' : ps.length ≤ 3 := Nat.le_of_lt_succ h3
  have HRP := Lib.hid hRP
  have HST := Lib.hid (fun W hzW => cl_start h tr ld ps a cap h3' W hzW)
  have HM := Lib.hid (show (4 * q - ps.length) + ps.length = 4 * q from by
    have := hRP.some
    omega)
  have HQ4 := Lib.hid hq4
  have HTR := Lib.hid htr
  have HTW := Lib.hid hT
  obtain ⟨T, hTT⟩ : ∃ t : Tb, Tb.mk h ld ps = t := ⟨_, rfl⟩
  have HTK := Lib.hid (show TbG q T from by rw [← hTT]; exact ⟨hRP.ok, hRP.uniq, hRP.evn⟩)
  have HTL := Lib.hid (show T.cs.length = ps.length from by rw [← hTT])
  rw [hTT] at HST ⊢
  obtain ⟨r, hr0⟩ : ∃ r, mn sd tr true [] (4 * q - ps.length) T = r := ⟨_, rfl⟩
  have HR0 := Lib.hid hr0
  rw [hr0]
  obtain ⟨PA, hPA⟩ : ∃ A, posA h tr ld (.slice a ps.length cap) = A := ⟨_, rfl⟩
  have HPA := Lib.hid hPA
  have HZ : Hid (PA.size = 7) := Lib.hid (by rw [← hPA]; rfl)
  rw [hPA] at HRI HB HR HST ⊢
  have hsI : decide ((1 : Int) < (sd : Int)) = false := by simp; omega
  clear hPA hb1 hz hr hw hRP h3 h3' hq hT hTT hr0
  go_enter Tryd.func18, Tryd.ntmps18
  go_wp2_with (refine wpList_load_row rfl 27 (.tmp 2) rfl w.heap.size rfl 27 PA (0, 0) _ HR.out Tryd.underlying27 rfl (by rw [HZ.out]; exact size_pos) ?_)
  refine HRI.out.mono ?_
  rintro e w2 ⟨rfl, hb2⟩
  have HB2 := Lib.hid (HB.out.trans (hb2.mono HB.out.size))
  have HR2 := Lib.hid (HR.out.later hb2)
  clear hb2 HR HB
  go_upto_region 3 with fail
  obtain ⟨b1, hb1⟩ : ∃ b, w.heap.size = b := ⟨_, rfl⟩
  have HB1 := Lib.hid hb1
  rw [hb1] at HR2 ⊢
  clear hb1
  refine wp_region_reliesT (ChF [.pointer (some ⟨b1, 4, none⟩), .int .u8 (tr : Int), .int .u8 (sd : Int), undef, .agg PA, .agg (tbA T), undef, .int .i64 (r : Int), .int .i64 0] [3, 6] [] (MuS w2 (fun _ _ => mustP tr sd) (.int .i64 (r : Int)))) (fun _ => true) (by kernel_rfl) (by kernel_rfl) (by kernel_rfl) (by kernel_rfl) (ChF.start ⟨(Below.refl _ _).drew, trivial⟩) ?obls ?fini
  case obls =>
      refine ⟨⟨?_, ?_⟩, ⟨?_, ?_⟩, ⟨?_, ?_⟩, ⟨?_, ?_⟩, ⟨?_, ?_⟩, ⟨?_, ?_⟩, ⟨?_, ?_⟩, ⟨?_, ?_⟩, ⟨?_, ?_⟩, trivial⟩
      · rfl
      · rintro ρ f W ⟨vs, us, hX⟩ hfi hw hcl hf
        have f2 : ρ (.tmp 2) = .pointer (some ⟨b1, 0, none⟩) := hf.1 2 (by simp [Op.operands])
        exact ok_value (v := .pointer (some ⟨b1, 4, none⟩)) (w' := W) (by simp [execOp, f2, go_sem]) (hX.pure 0 _ (by decide) (by decide) rfl hX.st)
      · rfl
      · rintro ρ f W ⟨vs, us, hX⟩ hfi hw hcl hf
        have f13 : ρ (.tmp 13) = .pointer (some ⟨b1, 4, none⟩) := hX.val 0 _ _ (by decide) (by decide) (hf.1 13 (by simp [Op.operands])) rfl
        have ck : W.cell? ⟨b1, 4, none⟩ = some (.int .u8 (tr : Int)) := ((HR2.out.later hX.st.1).cell 4).trans (by rw [← HPA.out]; rfl)
        exact ok_value (v := .int .u8 (tr : Int)) (w' := W) (by simp [execOp, f13, go_sem, ck]) (hX.pure 1 _ (by decide) (by decide) rfl hX.st)
      · rfl
      · rintro ρ f W ⟨vs, us, hX⟩ hfi hw hcl hf
        have f1 : ρ (.tmp 1) = .int .u8 (sd : Int) := hf.1 1 (by simp [Op.operands])
        exact ok_value (v := .int .u8 (sd : Int)) (w' := W) (by simp [execOp, f1]) (hX.pure 2 _ (by decide) (by decide) rfl hX.st)
      · rfl
      · rintro ρ f W ⟨vs, us, hX⟩ hfi hw hcl hf
        have f14 : ρ (.tmp 14) = .int .u8 (tr : Int) := hX.val 1 _ _ (by decide) (by decide) (hf.1 14 (by simp [Op.operands, Call.operands])) rfl
        have f15 : ρ (.tmp 15) = .int .u8 (sd : Int) := hX.val 2 _ _ (by decide) (by decide) (hf.1 15 (by simp [Op.operands, Call.operands])) rfl
        have hl := hX.le1 0 3 rfl hfi
        obtain rfl := list0 hl
        obtain ⟨hbe, -⟩ := hX.st
        have hbw : Below w.heap.size w W := HB2.out.trans (hbe.mono HB2.out.size)
        have hTT := HTW.out.below HTW.out.pos hbw
        refine ok_call (f := 41) (args := #[.int .u8 (tr : Int), .int .u8 (sd : Int), .func (Fn.func 45) #[] #[], .func (Fn.func 46) #[] #[]]) (by simp [execOp, f14, f15, hf.2.2.2, go_sem]) ((cl_least (mustP tr sd) W (mustP_ok HTR.out HSD.out) hTT hTT.pos trivial).mono ?_)
        rintro e w5 ⟨rfl, hE5, hb5⟩
        exact ⟨_, rfl, hX.step1 3 _ rfl (by decide) (by decide) ⟨hbe.trans (hb5.mono hbe.size), W.heap.size, rfl, hbe.size, hE5⟩⟩
      · rfl
      · rintro ρ f W ⟨vs, us, hX⟩ hfi hw hcl hf
        have f2 : ρ (.tmp 2) = .pointer (some ⟨b1, 0, none⟩) := hf.1 2 (by simp [Op.operands])
        exact ok_value (exec_load_row 27 (.tmp 2) rfl b1 f2 (HR2.out.later hX.st.1) Tryd.underlying27 rfl (by rw [HZ.out]; exact size_pos)) (hX.pure 4 _ (by decide) (by decide) rfl hX.st)
      · rfl
      · rintro ρ f W ⟨vs, us, hX⟩ hfi hw hcl hf
        have f17 : ρ (.tmp 17) = .agg PA := hX.val 4 _ _ (by decide) (by decide) (hf.1 17 (by simp [Op.operands, Call.operands])) rfl
        have hbw : Below w.heap.size w W := HB2.out.trans (hX.st.1.mono HB2.out.size)
        refine ok_call (f := 44) (args := #[.agg PA]) (by simp [execOp, f17, hf.2.2.2, go_sem]) ((HST.out W (HY.out.below (Nat.le_refl _) hbw)).mono ?_)
        rintro e w5 ⟨rfl, hb5⟩
        exact ⟨_, rfl, hX.pure 5 _ (by decide) (by decide) rfl (MuS.below (fun x b => mustP_ok HTR.out HSD.out) hX.st hb5)⟩
      · rfl
      · rintro ρ f W ⟨vs, us, hX⟩ hfi hw hcl hf
        have g16 := hX.get1 0 3 rfl (hf.1 16 (by simp [Op.operands, Call.operands]))
        have f18 : ρ (.tmp 18) = .agg (tbA T) := hX.val 5 _ _ (by decide) (by decide) (hf.1 18 (by simp [Op.operands, Call.operands])) rfl
        have hl := hX.le1 1 6 rfl hfi
        obtain ⟨p, rfl⟩ : ∃ p, vs = [p] := by
          have h6 := hf.1 16 (by simp [Op.operands, Call.operands])
          exact ⟨_, list1 hl g16⟩
        obtain ⟨hbe, x, rfl, hx1, hE⟩ := hX.st
        have h19 : ρ (.tmp 16) = folV x := (Option.some.inj (show some (folV x) = some (ρ (.tmp 16)) from g16)).symm
        unfold folV at h19
        have hE2 : Env (mustP tr sd) x 0 W := hE
        have hm0 : (4 * q - ps.length) + T.cs.length = 4 * q := by rw [HTL.out]; exact HM.out
        have hh := use_fol (P := mustP tr sd) (m := 4 * q - ps.length) (r := r) (mustP_ok (x := x) HTR.out HSD.out) HTK.out hm0 HQ4.out hE2 HR0.out
        refine ok_call (f := 70) (args := #[.agg (tbA T)] ++ capL x) ?_ ?_
        · simp [execOp, f18, h19, go_sem]
        refine hh.mono ?_
        rintro e w5 ⟨rfl, hb5⟩
        exact ⟨_, rfl, hX.step1 6 _ rfl (by decide) (by decide) ⟨hb5.below hbe hbe.size (by omega), rfl⟩⟩
      · rfl
      · rintro ρ f W ⟨vs, us, hX⟩ hfi hw hcl hf
        have g19 := hX.get1 1 6 rfl (hf.1 19 (by simp [Op.operands]))
        obtain ⟨p, hp⟩ : ∃ p, vs = p := ⟨_, rfl⟩
        have hv := hX.st.2
        have hlen := hX.l1
        have g20 := g19
        match vs, hv, g20, hlen with
        | [_, v], hv, g20, _ =>
          have hv2 : ρ (.tmp 19) = .int .i64 (r : Int) := (Option.some.inj (show some v = some (ρ (.tmp 19)) from g20)).symm.trans hv
          exact ok_value (v := .int .i64 (r : Int)) (w' := W) (by simp [execOp, hv2]) (hX.pure 7 _ (by decide) (by decide) rfl hX.st)
      · rfl
      · rintro ρ f W ⟨vs, us, hX⟩ hfi hw hcl hf
        exact ok_value (v := .int .i64 0) (w' := W) (by simp [execOp, hf.2.1]) (hX.pure 8 _ (by decide) (by decide) rfl hX.st)
  case fini =>
    rintro us w8 hlen ⟨vs, us', hX⟩
    have hl0 : us.length = 9 := hlen
    match us, hl0 with
    | [y0, y1, y2, y3, y4, y5, y6, y7, y8], _ =>
      obtain rfl : y7 = _ := hX.val 7 _ _ (by decide) (by decide) rfl rfl
      obtain rfl : y8 = _ := hX.val 8 _ _ (by decide) (by decide) rfl rfl
      have HST8 := Lib.hid hX.st.1
      clear hX hlen
      simp only [putAll, List.zip_cons_cons, List.zip_nil_right, List.foldl_cons, List.foldl_nil]
      simp only [Act.put, List.setIfInBounds_toArray, List.set_cons_succ, List.set_cons_zero]
      go_wp2_with fail
      go_ret2
      exact ⟨rfl, HB2.out.trans (HST8.out.mono HB2.out.size)⟩
set_option maxHeartbeats 1000000 in
set_option maxRecDepth 10000 in
theorem cl_Sure_no (h : Nat → Nat) (tr ld : Nat) (ps : List Nat) (a : Option Addr) (cap : Nat) (sd : Nat) (tk : Int) (ln : List Nat) (la : Option Addr) (lcap : Nat) (hw : ∀ s, W64 (h s)) (htr : tr < 256) (hld : ld < 256) (hsd : sd < 256) (w : World) (hz : Byt w a ps.length ps) (hl : Byt w la ln.length ln) (hr : (rightB h tr ld ps && claimB sd tk ln (pop (h ((ld + ps.length) % 4)))) = false) :
    Calls Tryd.prog 17 #[.agg (posA h tr ld (.slice a ps.length cap)), .agg (cmA sd tk (.slice la ln.length lcap))] w fun e w' => e = .returned (.tuple #[.int .i64 0, .int .i64 2]) ∧ Below w.heap.size w w' := by
  have hb1 := (Below.refl w.heap.size w).alloc (Nat.le_refl _) (.cells (posA h tr ld (.slice a ps.length cap)) 27)
  have hb2 := hb1.alloc hb1.size (.cells (cmA sd tk (.slice la ln.length lcap)) 44)
  have HRI := Lib.hid (cl_Right h tr ld ps a cap sd tk ln la lcap hw htr hld hsd _ (hz.below (Nat.le_refl _) hb2) (hl.below (Nat.le_refl _) hb2))
  have HB := Lib.hid hb2
  have HR := Lib.hid ((Row.new w 27 (posA h tr ld (.slice a ps.length cap))).alloc (.cells (cmA sd tk (.slice la ln.length lcap)) 44))
  have HC := Lib.hid (Row.new (w.alloc (.cells (posA h tr ld (.slice a ps.length cap)) 27)) 44 (cmA sd tk (.slice la ln.length lcap)))
  have hsz : (w.alloc (.cells (posA h tr ld (.slice a ps.length cap)) 27)).heap.size = w.heap.size + 1 := by simp
  rw [hsz] at HC
  clear hb1 hb2 hsz
  obtain ⟨PA, hPA⟩ : ∃ A, posA h tr ld (.slice a ps.length cap) = A := ⟨_, rfl⟩
  have HPA := Lib.hid hPA
  have HZ : Hid (PA.size = 7) := Lib.hid (by rw [← hPA]; rfl)
  obtain ⟨CA, hCA⟩ : ∃ A, cmA sd tk (.slice la ln.length lcap) = A := ⟨_, rfl⟩
  have HCA := Lib.hid hCA
  have HCZ : Hid (CA.size = 3) := Lib.hid (by rw [← hCA]; rfl)
  rw [hPA] at HRI HB HR HC ⊢
  rw [hCA] at HRI HB HR HC ⊢
  rw [hr] at HRI
  clear hr
  clear hPA hCA hz hl hw
  go_enter Tryd.func17, Tryd.ntmps17
  go_upto_region 1 with fail
  generalize (w.alloc (.cells PA 27)).alloc (.cells CA 44) = wa at *
  go_wp2_with (first
    | refine wpList_load_row rfl 27 (.tmp 2) rfl w.heap.size rfl 27 PA (0, 0) _ HR.out Tryd.underlying27 rfl (by rw [HZ.out]; exact size_pos) ?_
    | refine wpList_load_row rfl 44 (.tmp 3) rfl (w.heap.size + 1) rfl 44 CA (0, 0) _ HC.out Tryd.underlying44 rfl (by rw [HCZ.out]; exact size_cm) ?_)
  refine HRI.out.mono ?_
  rintro e w2 ⟨rfl, hb2⟩
  have HB2 := Lib.hid (HB.out.trans (hb2.mono HB.out.size))
  have HR2 := Lib.hid (HR.out.later hb2)
  have HC2 := Lib.hid (HC.out.later hb2)
  clear hb2 HR HB HC
  go_wp2_with fail
  go_ret2
  exact ⟨rfl, HB2.out⟩
set_option maxHeartbeats 2000000 in
set_option maxRecDepth 10000 in
theorem cl_Sure_ok (h : Nat → Nat) (tr ld : Nat) (ps : List Nat) (a : Option Addr) (cap : Nat) (sd : Nat) (tk : Int) (ln : List Nat) (la : Option Addr) (lcap : Nat) (hw : ∀ s, W64 (h s)) (htr : tr < 256) (hld : ld < 256) (hsd2 : sd < 2) (w : World) (hz : Byt w a ps.length ps) (hl : Byt w la ln.length ln) (hln : ∀ b off, la = some ⟨b, off, none⟩ → b < w.heap.size) (hT : Tab w) (q : Nat) (hq : pop (h ((ld + ps.length) % 4)) = q) (hq4 : q ≤ 4) (hr : rightB h tr ld ps = true) (hc : claimB sd tk ln q = true) (h52 : ∀ y ∈ ln, y < 52) :
    Calls Tryd.prog 17 #[.agg (posA h tr ld (.slice a ps.length cap)), .agg (cmA sd tk (.slice la ln.length lcap))] w fun e w' => e = .returned (.tuple #[.int .i64 (mn sd tr false ln (4 * q - ps.length) ⟨h, ld, ps⟩ : Int), .int .i64 0]) ∧ Below w.heap.size w w' := by
  have hsd : sd < 256 := by omega
  have hb1 := (Below.refl w.heap.size w).alloc (Nat.le_refl _) (.cells (posA h tr ld (.slice a ps.length cap)) 27)
  have hb2 := hb1.alloc hb1.size (.cells (cmA sd tk (.slice la ln.length lcap)) 44)
  have HRI := Lib.hid (cl_Right h tr ld ps a cap sd tk ln la lcap hw htr hld hsd _ (hz.below (Nat.le_refl _) hb2) (hl.below (Nat.le_refl _) hb2))
  have HB := Lib.hid hb2
  have HR := Lib.hid ((Row.new w 27 (posA h tr ld (.slice a ps.length cap))).alloc (.cells (cmA sd tk (.slice la ln.length lcap)) 44))
  have HC := Lib.hid (Row.new (w.alloc (.cells (posA h tr ld (.slice a ps.length cap)) 27)) 44 (cmA sd tk (.slice la ln.length lcap)))
  have hsz : (w.alloc (.cells (posA h tr ld (.slice a ps.length cap)) 27)).heap.size = w.heap.size + 1 := by simp
  rw [hsz] at HC
  clear hb1 hb2 hsz
  obtain ⟨PA, hPA⟩ : ∃ A, posA h tr ld (.slice a ps.length cap) = A := ⟨_, rfl⟩
  have HPA := Lib.hid hPA
  have HZ : Hid (PA.size = 7) := Lib.hid (by rw [← hPA]; rfl)
  obtain ⟨CA, hCA⟩ : ∃ A, cmA sd tk (.slice la ln.length lcap) = A := ⟨_, rfl⟩
  have HCA := Lib.hid hCA
  have HCZ : Hid (CA.size = 3) := Lib.hid (by rw [← hCA]; rfl)
  rw [hPA] at HRI HB HR HC ⊢
  rw [hCA] at HRI HB HR HC ⊢
  rw [hr, hq, hc, Bool.true_and] at HRI
  have HY := Lib.hid hz
  have HLY := Lib.hid hl
  have HSD := Lib.hid hsd2
  have H52 := Lib.hid h52
  have HLNB := Lib.hid hln
  have hLB : ∀ {W : World}, Below w.heap.size w W → ∀ b off, la = some ⟨b, off, none⟩ → b < W.heap.size := fun hb b off e => Nat.lt_of_lt_of_le (HLNB.out b off e) hb.size
  have hRP := right_of hw hr
  rw [hq] at hRP
  have h3 := hRP.ok.pk.2
  have h3' : ps.length ≤ 3 := Nat.le_of_lt_succ h3
  have HRP := Lib.hid hRP
  have HST := Lib.hid (fun W hzW => cl_start h tr ld ps a cap h3' W hzW)
  have HM := Lib.hid (show (4 * q - ps.length) + ps.length = 4 * q from by
    have := hRP.some
    omega)
  have HQ4 := Lib.hid hq4
  have HTR := Lib.hid htr
  have HTW := Lib.hid hT
  obtain ⟨T, hTT⟩ : ∃ t : Tb, Tb.mk h ld ps = t := ⟨_, rfl⟩
  have HTK := Lib.hid (show TbG q T from by rw [← hTT]; exact ⟨hRP.ok, hRP.uniq, hRP.evn⟩)
  have HTL := Lib.hid (show T.cs.length = ps.length from by rw [← hTT])
  rw [hTT] at HST ⊢
  rw [hPA] at HST
  obtain ⟨r, hr0⟩ : ∃ r, mn sd tr false ln (4 * q - ps.length) T = r := ⟨_, rfl⟩
  have HR0 := Lib.hid hr0
  rw [hr0]
  obtain ⟨n, hn⟩ : ∃ n, ln.length = n := ⟨_, rfl⟩
  have HNL := Lib.hid hn
  rw [hn] at hCA HCA
  clear hPA hCA hz hl hr hw hRP h3 h3' hq hT hTT hr0 hn hc hln h52
  go_enter Tryd.func17, Tryd.ntmps17
  go_upto_region 1 with fail
  generalize (w.alloc (.cells PA 27)).alloc (.cells CA 44) = wa at *
  go_wp2_with (first
    | refine wpList_load_row rfl 27 (.tmp 2) rfl w.heap.size rfl 27 PA (0, 0) _ HR.out Tryd.underlying27 rfl (by rw [HZ.out]; exact size_pos) ?_
    | refine wpList_load_row rfl 44 (.tmp 3) rfl (w.heap.size + 1) rfl 44 CA (0, 0) _ HC.out Tryd.underlying44 rfl (by rw [HCZ.out]; exact size_cm) ?_)
  refine HRI.out.mono ?_
  rintro e w2 ⟨rfl, hb2⟩
  have HB2 := Lib.hid (HB.out.trans (hb2.mono HB.out.size))
  have HR2 := Lib.hid (HR.out.later hb2)
  have HC2 := Lib.hid (HC.out.later hb2)
  clear hb2 HR HB HC
  go_upto_region 3 with fail
  obtain ⟨b1, hb1⟩ : ∃ b, w.heap.size = b := ⟨_, rfl⟩
  have HB1 := Lib.hid hb1
  rw [hb1] at HR2 HC2 ⊢
  clear hb1
  refine wp_region_reliesT (ChF [.pointer (some ⟨b1, 4, none⟩), .int .u8 (tr : Int), .pointer (some ⟨b1 + 1, 0, none⟩), .int .u8 (sd : Int), .pointer (some ⟨b1 + 1, 2, none⟩), .slice la n lcap, undef, undef, .agg PA, .agg (tbA T), undef, .int .i64 (r : Int), .int .i64 0] [6, 7, 10] [] (SuS w2 (.slice la n lcap) (fun x b => sureP x tr sd ln b la lcap) (.int .i64 (r : Int)))) (fun _ => true) (by kernel_rfl) (by kernel_rfl) (by kernel_rfl) (by kernel_rfl) (ChF.start ⟨(Below.refl _ _).drew, trivial⟩) ?obls ?fini
  case obls =>
      refine ⟨⟨?_, ?_⟩, ⟨?_, ?_⟩, ⟨?_, ?_⟩, ⟨?_, ?_⟩, ⟨?_, ?_⟩, ⟨?_, ?_⟩, ⟨?_, ?_⟩, ⟨?_, ?_⟩, ⟨?_, ?_⟩, ⟨?_, ?_⟩, ⟨?_, ?_⟩, ⟨?_, ?_⟩, ⟨?_, ?_⟩, trivial⟩
      · rfl
      · rintro ρ f W ⟨vs, us, hX⟩ hfi hw hcl hf
        have f2 : ρ (.tmp 2) = .pointer (some ⟨b1, 0, none⟩) := hf.1 2 (by simp [Op.operands])
        exact ok_value (v := .pointer (some ⟨b1, 4, none⟩)) (w' := W) (by simp [execOp, f2, go_sem]) (hX.pure 0 _ (by decide) (by decide) rfl hX.st)
      · rfl
      · rintro ρ f W ⟨vs, us, hX⟩ hfi hw hcl hf
        have f10 : ρ (.tmp 10) = .pointer (some ⟨b1, 4, none⟩) := hX.val 0 _ _ (by decide) (by decide) (hf.1 10 (by simp [Op.operands])) rfl
        have ck : W.cell? ⟨b1, 4, none⟩ = some (.int .u8 (tr : Int)) := ((HR2.out.later hX.st.1).cell 4).trans (by rw [← HPA.out]; rfl)
        exact ok_value (v := .int .u8 (tr : Int)) (w' := W) (by simp [execOp, f10, go_sem, ck]) (hX.pure 1 _ (by decide) (by decide) rfl hX.st)
      · rfl
      · rintro ρ f W ⟨vs, us, hX⟩ hfi hw hcl hf
        have f3 : ρ (.tmp 3) = .pointer (some ⟨b1 + 1, 0, none⟩) := hf.1 3 (by simp [Op.operands])
        exact ok_value (v := .pointer (some ⟨b1 + 1, 0, none⟩)) (w' := W) (by simp [execOp, f3, go_sem]) (hX.pure 2 _ (by decide) (by decide) rfl hX.st)
      · rfl
      · rintro ρ f W ⟨vs, us, hX⟩ hfi hw hcl hf
        have f12 : ρ (.tmp 12) = .pointer (some ⟨b1 + 1, 0, none⟩) := hX.val 2 _ _ (by decide) (by decide) (hf.1 12 (by simp [Op.operands])) rfl
        have ck : W.cell? ⟨b1 + 1, 0, none⟩ = some (.int .u8 (sd : Int)) := ((HC2.out.later hX.st.1).cell 0).trans (by rw [← HCA.out]; rfl)
        exact ok_value (v := .int .u8 (sd : Int)) (w' := W) (by simp [execOp, f12, go_sem, ck]) (hX.pure 3 _ (by decide) (by decide) rfl hX.st)
      · rfl
      · rintro ρ f W ⟨vs, us, hX⟩ hfi hw hcl hf
        have f3 : ρ (.tmp 3) = .pointer (some ⟨b1 + 1, 0, none⟩) := hf.1 3 (by simp [Op.operands])
        exact ok_value (v := .pointer (some ⟨b1 + 1, 2, none⟩)) (w' := W) (by simp [execOp, f3, go_sem]) (hX.pure 4 _ (by decide) (by decide) rfl hX.st)
      · rfl
      · rintro ρ f W ⟨vs, us, hX⟩ hfi hw hcl hf
        have f14 : ρ (.tmp 14) = .pointer (some ⟨b1 + 1, 2, none⟩) := hX.val 4 _ _ (by decide) (by decide) (hf.1 14 (by simp [Op.operands])) rfl
        have ck : W.cell? ⟨b1 + 1, 2, none⟩ = some (.slice la n lcap) := ((HC2.out.later hX.st.1).cell 2).trans (by rw [← HCA.out]; rfl)
        exact ok_value (v := .slice la n lcap) (w' := W) (by simp [execOp, f14, go_sem, ck]) (hX.pure 5 _ (by decide) (by decide) rfl hX.st)
      · rfl
      · rintro ρ f W ⟨vs, us, hX⟩ hfi hw hcl hf
        have f15 : ρ (.tmp 15) = .slice la n lcap := hX.val 5 _ _ (by decide) (by decide) (hf.1 15 (by simp [Op.operands, Call.operands])) rfl
        have hl := hX.le1 0 6 rfl hfi
        obtain rfl := list0 hl
        obtain ⟨hbe, -⟩ := hX.st
        refine ok_call (f := 42) (args := #[.slice la n lcap]) (by simp [execOp, f15, hf.2.2.2, go_sem]) ((cl_byLine la n lcap W).mono ?_)
        rintro e w5 ⟨rfl, rfl⟩
        exact ⟨_, rfl, hX.step1 6 _ rfl (by decide) (by decide) ⟨hbe.alloc hbe.size _, W.heap.size, rfl, hbe.size, Row.new W 25 #[.slice la n lcap]⟩⟩
      · rfl
      · rintro ρ f W ⟨vs, us, hX⟩ hfi hw hcl hf
        have f11 : ρ (.tmp 11) = .int .u8 (tr : Int) := hX.val 1 _ _ (by decide) (by decide) (hf.1 11 (by simp [Op.operands, Call.operands])) rfl
        have f13 : ρ (.tmp 13) = .int .u8 (sd : Int) := hX.val 3 _ _ (by decide) (by decide) (hf.1 13 (by simp [Op.operands, Call.operands])) rfl
        have g16 := hX.get1 0 6 rfl (hf.1 16 (by simp [Op.operands, Call.operands]))
        have hl := hX.le1 1 7 rfl hfi
        obtain ⟨p, rfl⟩ : ∃ p, vs = [p] := ⟨_, list1 hl g16⟩
        obtain ⟨hbe, bl, rfl, hbl, hrow⟩ := hX.st
        have f16 : ρ (.tmp 16) = .func (Fn.func 71) #[] #[.pointer (some ⟨bl, 0, none⟩)] := (Option.some.inj (show some (Value.func (Fn.func 71) #[] #[.pointer (some ⟨bl, 0, none⟩)]) = some (ρ (.tmp 16)) from g16)).symm
        have hbw : Below w.heap.size w W := HB2.out.trans (hbe.mono HB2.out.size)
        have hTT := HTW.out.below HTW.out.pos hbw
        have hlw : Byt W la ln.length ln := by have := HLY.out.below (Nat.le_refl _) hbw; exact this
        have hcr : LnR W.heap.size ln bl la lcap W := ⟨hrow.lt, by rw [HNL.out]; exact hrow, hlw, hLB hbw⟩
        refine ok_call (f := 41) (args := #[.int .u8 (tr : Int), .int .u8 (sd : Int), .func (Fn.func 71) #[] #[.pointer (some ⟨bl, 0, none⟩)], .func (Fn.func 43) #[] #[]]) (by simp [execOp, f11, f13, f16, hf.2.2.2, go_sem]) ((cl_least (sureP W.heap.size tr sd ln bl la lcap) W (sureP_ok HTR.out HSD.out H52.out) hTT hTT.pos hcr).mono ?_)
        rintro e w5 ⟨rfl, hE5, hb5⟩
        exact ⟨_, rfl, hX.step1 7 _ rfl (by decide) (by decide) ⟨hbe.trans (hb5.mono hbe.size), W.heap.size, bl, rfl, hbe.size, hE5⟩⟩
      · rfl
      · rintro ρ f W ⟨vs, us, hX⟩ hfi hw hcl hf
        have f2 : ρ (.tmp 2) = .pointer (some ⟨b1, 0, none⟩) := hf.1 2 (by simp [Op.operands])
        exact ok_value (exec_load_row 27 (.tmp 2) rfl b1 f2 (HR2.out.later hX.st.1) Tryd.underlying27 rfl (by rw [HZ.out]; exact size_pos)) (hX.pure 8 _ (by decide) (by decide) rfl hX.st)
      · rfl
      · rintro ρ f W ⟨vs, us, hX⟩ hfi hw hcl hf
        have f18 : ρ (.tmp 18) = .agg PA := hX.val 8 _ _ (by decide) (by decide) (hf.1 18 (by simp [Op.operands, Call.operands])) rfl
        have hbw : Below w.heap.size w W := HB2.out.trans (hX.st.1.mono HB2.out.size)
        refine ok_call (f := 44) (args := #[.agg PA]) (by simp [execOp, f18, hf.2.2.2, go_sem]) ((HST.out W (HY.out.below (Nat.le_refl _) hbw)).mono ?_)
        rintro e w5 ⟨rfl, hb5⟩
        exact ⟨_, rfl, hX.pure 9 _ (by decide) (by decide) rfl (SuS.below (fun x b => sureP_ok HTR.out HSD.out H52.out) hX.st hb5)⟩
      · rfl
      · rintro ρ f W ⟨vs, us, hX⟩ hfi hw hcl hf
        have g17 := hX.get1 1 7 rfl (hf.1 17 (by simp [Op.operands, Call.operands]))
        have f19 : ρ (.tmp 19) = .agg (tbA T) := hX.val 9 _ _ (by decide) (by decide) (hf.1 19 (by simp [Op.operands, Call.operands])) rfl
        have hl := hX.le1 2 10 rfl hfi
        obtain ⟨p, p2, rfl⟩ : ∃ p p2, vs = [p, p2] := by
          match vs, hl, g17 with
          | [p, p2], _, _ => exact ⟨p, p2, rfl⟩
        obtain ⟨hbe, x, bl, rfl, hx1, hE⟩ := hX.st
        have h19 : ρ (.tmp 17) = folV x := (Option.some.inj (show some (folV x) = some (ρ (.tmp 17)) from g17)).symm
        unfold folV at h19
        have hE2 : Env (sureP x tr sd ln bl la lcap) x 0 W := hE
        have hm0 : (4 * q - ps.length) + T.cs.length = 4 * q := by rw [HTL.out]; exact HM.out
        have hh := use_fol (P := sureP x tr sd ln bl la lcap) (m := 4 * q - ps.length) (r := r) (sureP_ok (x := x) (bl := bl) (a := la) (cap := lcap) HTR.out HSD.out H52.out) HTK.out hm0 HQ4.out hE2 HR0.out
        refine ok_call (f := 70) (args := #[.agg (tbA T)] ++ capL x) ?_ ?_
        · simp [execOp, f19, h19, go_sem]
        refine hh.mono ?_
        rintro e w5 ⟨rfl, hb5⟩
        exact ⟨_, rfl, hX.step1 10 _ rfl (by decide) (by decide) ⟨hb5.below hbe hbe.size (by omega), rfl⟩⟩
      · rfl
      · rintro ρ f W ⟨vs, us, hX⟩ hfi hw hcl hf
        have g20 := hX.get1 2 10 rfl (hf.1 20 (by simp [Op.operands]))
        obtain ⟨p, hp⟩ : ∃ p, vs = p := ⟨_, rfl⟩
        have hv := hX.st.2
        have hlen := hX.l1
        have g20 := g20
        match vs, hv, g20, hlen with
        | [_, _, v], hv, g20, _ =>
          have hv2 : ρ (.tmp 20) = .int .i64 (r : Int) := (Option.some.inj (show some v = some (ρ (.tmp 20)) from g20)).symm.trans hv
          exact ok_value (v := .int .i64 (r : Int)) (w' := W) (by simp [execOp, hv2]) (hX.pure 11 _ (by decide) (by decide) rfl hX.st)
      · rfl
      · rintro ρ f W ⟨vs, us, hX⟩ hfi hw hcl hf
        exact ok_value (v := .int .i64 0) (w' := W) (by simp [execOp, hf.2.1]) (hX.pure 12 _ (by decide) (by decide) rfl hX.st)
  case fini =>
    rintro us w8 hlen ⟨vs, us', hX⟩
    have hl0 : us.length = 13 := hlen
    match us, hl0 with
    | [y0, y1, y2, y3, y4, y5, y6, y7, y8, y9, y10, y11, y12], _ =>
      obtain rfl : y11 = _ := hX.val 11 _ _ (by decide) (by decide) rfl rfl
      obtain rfl : y12 = _ := hX.val 12 _ _ (by decide) (by decide) rfl rfl
      have HST8 := Lib.hid hX.st.1
      clear hX hlen
      simp only [putAll, List.zip_cons_cons, List.zip_nil_right, List.foldl_cons, List.foldl_nil]
      simp only [Act.put, List.setIfInBounds_toArray, List.set_cons_succ, List.set_cons_zero]
      go_wp2_with fail
      go_ret2
      exact ⟨rfl, HB2.out.trans (HST8.out.mono HB2.out.size)⟩
end Go.Proofs.YtnbillhodbcfbaaDoor
