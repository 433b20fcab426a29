/- DmPg, DmPh in one text. -/
import Derived.Test.YtnbillhodbcfbaaDoorMDpe

/- Positions over this seat's program: Left, Solve. -/
namespace Go.Proofs.YtnbillhodbcfbaaDoor
open Go.RowKit Go.Sort Go.Shelf Go.Maps Go.WideMaps

theorem slv_new (tr : Nat) (w : World) : Slv tr (w.heap.size + 1) w.heap.size 0 ((w.alloc (.map #[] 0)).alloc (.cells #[.int .u8 (tr : Int), .map (some w.heap.size)] 108)) :=
  ⟨Row.new1 w (.map #[] 0) 108 _, .map [], (World.ownsMap_made w Tryd.prog 130 bndR).alloc _, Good.nil tr⟩
/-- a region that makes a solver (operation 2) and uses it once (operation 5) -/
structure FSol (vals : List Value) (W1 : World) (tr : Nat) (res : Value → World → Prop) (f : Done) (W : World) : Prop where
  st : Below W1.heap.size W1 W
  sol : ∀ v, f 2 = some v → ∃ bs bm, v = .pointer (some ⟨bs, 0, none⟩) ∧ W1.heap.size ≤ bm ∧ (f 5 = none → Slv tr bs bm 0 W)
  res : ∀ v, f 5 = some v → res v W ∧ ∀ u, f 6 = some u → u = v
  val : ∀ j v x, j ≠ 2 → j ≠ 5 → j ≠ 6 → f j = some v → vals[j]? = some x → v = x
theorem FSol.start {vals : List Value} {W1 W : World} {tr : Nat} {res : Value → World → Prop} (h : Below W1.heap.size W1 W) : FSol vals W1 tr res (fun _ => none) W := ⟨h, (fun _ h => by cases h), (fun _ h => by cases h), fun _ _ _ _ _ _ h => by cases h⟩
theorem FSol.pure {vals : List Value} {W1 W W' : World} {tr : Nat} {res : Value → World → Prop} {f : Done} (h : FSol vals W1 tr res f W) (i : Nat) (v : Value) (hi : i ≠ 2 ∧ i ≠ 5 ∧ i ≠ 6) (hv : vals[i]? = some v) (hb : Below W.heap.size W W') (he : W' = W ∨ f 5 = none) : FSol vals W1 tr res (f.set i v) W' := by
  refine ⟨h.st.trans (hb.mono h.st.size), fun u hu => ?_, fun u hu => ?_, fun j u x h1 h2 h3 hj hx => ?_⟩
  · rw [Done.other f v (Ne.symm hi.1)] at hu
    obtain ⟨bs, bm, e, hm, hs⟩ := h.sol u hu
    rw [Done.other f v (Ne.symm hi.2.1)]
    exact ⟨bs, bm, e, hm, fun h5 => (hs h5).below hb⟩
  · rw [Done.other f v (Ne.symm hi.2.1)] at hu
    rw [Done.other f v (Ne.symm hi.2.2)]
    rcases he with rfl | he
    · exact h.res u hu
    · rw [he] at hu; cases hu
  · by_cases e : j = i
    · subst e
      rw [Done.same] at hj
      rw [hv] at hx
      exact (Option.some.inj hj).symm.trans (Option.some.inj hx)
    · rw [Done.other f v e] at hj
      exact h.val j u x h1 h2 h3 hj hx
theorem FSol.made {vals : List Value} {W1 W W' : World} {tr bs bm : Nat} {res : Value → World → Prop} {f : Done} (h : FSol vals W1 tr res f W) (hf5 : f 5 = none) (hs : Slv tr bs bm 0 W') (hb : Below W.heap.size W W') (hm : W.heap.size ≤ bm) : FSol vals W1 tr res (f.set 2 (.pointer (some ⟨bs, 0, none⟩))) W' := by
  refine ⟨h.st.trans (hb.mono h.st.size), fun u hu => ?_, fun u hu => ?_, fun j u x h1 h2 h3 hj hx => ?_⟩
  · rw [Done.same] at hu
    exact ⟨bs, bm, (Option.some.inj hu).symm, Nat.le_trans h.st.size hm, fun _ => hs⟩
  · rw [Done.other f _ (by omega), hf5] at hu; cases hu
  · rw [Done.other f _ h1] at hj
    exact h.val j u x h1 h2 h3 hj hx
theorem FSol.used {vals : List Value} {W1 W W' : World} {tr : Nat} {res : Value → World → Prop} {f : Done} (h : FSol vals W1 tr res f W) (hf6 : f 6 = none) (v : Value) (hr : res v W') (hb : Below W1.heap.size W1 W') : FSol vals W1 tr res (f.set 5 v) W' := by
  refine ⟨hb, fun u hu => ?_, fun u hu => ?_, fun j u x h1 h2 h3 hj hx => ?_⟩
  · rw [Done.other f _ (by omega)] at hu
    obtain ⟨bs, bm, e, hm, -⟩ := h.sol u hu
    rw [Done.same]
    exact ⟨bs, bm, e, hm, fun h => by cases h⟩
  · rw [Done.same] at hu
    rw [Done.other f _ (by omega), hf6]
    exact ⟨Option.some.inj hu ▸ hr, fun _ h => by cases h⟩
  · rw [Done.other f _ h2] at hj
    exact h.val j u x h1 h2 h3 hj hx
theorem FSol.told {vals : List Value} {W1 W : World} {tr : Nat} {res : Value → World → Prop} {f : Done} (h : FSol vals W1 tr res f W) {v : Value} (hf : f 5 = some v) : FSol vals W1 tr res (f.set 6 v) W := by
  refine ⟨h.st, fun u hu => ?_, fun u hu => ?_, fun j u x h1 h2 h3 hj hx => ?_⟩
  · rw [Done.other f _ (by omega)] at hu
    rw [Done.other f _ (by omega)]
    exact h.sol u hu
  · rw [Done.other f _ (by omega)] at hu
    rw [Done.same]
    obtain ⟨h1, -⟩ := h.res u hu
    rw [hf] at hu
    exact ⟨h1, fun x hx => (Option.some.inj hx).symm.trans (Option.some.inj hu)⟩
  · rw [Done.other f _ h3] at hj
    exact h.val j u x h1 h2 h3 hj hx
set_option maxHeartbeats 1000000 in
set_option maxRecDepth 10000 in
theorem dm_Left_no (h : Nat → Nat) (tr ld : Nat) (ps : List Nat) (a : Option Addr) (cap : Nat) (hw : ∀ s, W64 (h s)) (htr : tr < 256) (hld : ld < 256) (w : World) (hz : Byt w a ps.length ps) (hr : rightB h tr ld ps = false) :
    Calls Tryd.prog 25 #[.agg (posA h tr ld (.slice a ps.length cap))] w fun e w' => e = .returned (.tuple #[.int .i64 0, .int .u8 0, .int .i64 2]) ∧ Below w.heap.size w w' := by
  have hb1 := (Below.refl w.heap.size w).alloc (Nat.le_refl _) (.cells (posA h tr ld (.slice a ps.length cap)) 27)
  have HRI := Lib.hid (dm_Right h tr ld ps a cap hw htr hld _ (hz.below (Nat.le_refl _) hb1))
  rw [hr] at HRI
  have HB := Lib.hid hb1
  have HR := Lib.hid (Row.new w 27 (posA h tr ld (.slice a ps.length cap)))
  obtain ⟨PA, hPA⟩ : ∃ A, posA h tr ld (.slice a ps.length cap) = A := ⟨_, rfl⟩
  have HZ : Hid (PA.size = 7) := Lib.hid (by rw [← hPA]; rfl)
  rw [hPA] at HRI HB HR ⊢
  clear hPA hb1 hz hr hw
  go_enter Tryd.func25, Tryd.ntmps25
  go_wp2_with (refine wpList_load_row rfl 27 (.tmp 1) rfl w.heap.size rfl 27 PA (0, 0) _ HR.out Tryd.underlying27 rfl (by rw [HZ.out]; exact size_pos) ?_)
  refine HRI.out.mono ?_
  rintro e w2 ⟨rfl, hb2⟩
  have HB2 := Lib.hid (HB.out.trans (hb2.mono HB.out.size))
  clear hb2
  go_wp2_with fail
  go_ret3
  exact ⟨rfl, HB2.out⟩
set_option maxHeartbeats 1000000 in
set_option maxRecDepth 10000 in
theorem dm_Left_ok (h : Nat → Nat) (tr ld : Nat) (ps : List Nat) (a : Option Addr) (cap : Nat) (hw : ∀ s, W64 (h s)) (htr : tr < 256) (hld : ld < 256) (w : World) (hz : Byt w a ps.length ps) (hr : rightB h tr ld ps = true) :
    Calls Tryd.prog 25 #[.agg (posA h tr ld (.slice a ps.length cap))] w fun e w' => e = .returned (.tuple #[.int .i64 (pop (h ((ld + ps.length) % 4)) : Int), .int .u8 (((ld + ps.length) % 4 : Nat) : Int), .int .i64 0]) ∧ Below w.heap.size w w' := by
  have hb1 := (Below.refl w.heap.size w).alloc (Nat.le_refl _) (.cells (posA h tr ld (.slice a ps.length cap)) 27)
  have HRI := Lib.hid (dm_Right h tr ld ps a cap hw htr hld _ (hz.below (Nat.le_refl _) hb1))
  rw [hr] at HRI
  have hR := right_of hw hr
  have h3 := hR.ok.pk.2
  have HTU := Lib.hid (fun W => dm_turnP h tr ld ps.length a cap (by have := hR.ok.ld; show ld ≤ 3; exact Nat.le_of_lt_succ this) (Nat.le_of_lt_succ h3) W)
  have HB := Lib.hid hb1
  have HR := Lib.hid (Row.new w 27 (posA h tr ld (.slice a ps.length cap)))
  have HCH := Lib.hid (fun s (hs : s < 4) => posA_h h tr ld (.slice a ps.length cap) hs)
  have ht4 : (ld + ps.length) % 4 < 4 := Nat.mod_lt _ (by decide)
  obtain ⟨t, ht⟩ : ∃ t, (ld + ps.length) % 4 = t := ⟨_, rfl⟩
  rw [ht] at HTU ht4 ⊢
  have HON := Lib.hid (fun W => bits_ones (h t) (hw t) W)
  obtain ⟨PA, hPA⟩ : ∃ A, posA h tr ld (.slice a ps.length cap) = A := ⟨_, rfl⟩
  have HZ : Hid (PA.size = 7) := Lib.hid (by rw [← hPA]; rfl)
  rw [hPA] at HRI HB HR HTU HCH ⊢
  clear hPA hb1 hz hr hw hR h3 ht
  go_enter Tryd.func25, Tryd.ntmps25
  go_wp2_with (refine wpList_load_row rfl 27 (.tmp 1) rfl w.heap.size rfl 27 PA (0, 0) _ HR.out Tryd.underlying27 rfl (by rw [HZ.out]; exact size_pos) ?_)
  refine HRI.out.mono ?_
  rintro e w2 ⟨rfl, hb2⟩
  have HB2 := Lib.hid (HB.out.trans (hb2.mono HB.out.size))
  have HR2 := Lib.hid (HR.out.later hb2)
  clear hb2
  go_wp2_with (refine wpList_load_row rfl 27 (.tmp 1) rfl w.heap.size rfl 27 PA (0, 0) _ HR2.out Tryd.underlying27 rfl (by rw [HZ.out]; exact size_pos) ?_)
  refine (HTU.out _).mono ?_
  rintro e w3 ⟨rfl, hb3⟩
  have HB3 := Lib.hid (HB2.out.trans (hb3.mono HB2.out.size))
  have cT := ((HR2.out.later hb3).cell t).trans (HCH.out t ht4)
  have hti : (t : Int) < 4 := by omega
  clear hb3
  go_wp2_with ((with_reducible refine (HON.out _).mono ?_); rintro e w4 ⟨rfl, rfl⟩)
  go_ret3
  exact ⟨rfl, HB3.out⟩
end Go.Proofs.YtnbillhodbcfbaaDoor

/- Positions over this seat's program: Solve. -/
namespace Go.Proofs.YtnbillhodbcfbaaDoor
open Go.RowKit Go.Sort Go.Shelf Go.Maps Go.WideMaps

set_option maxHeartbeats 1000000 in
set_option maxRecDepth 10000 in
theorem dm_Solve_no (h : Nat → Nat) (tr ld : Nat) (ps : List Nat) (a : Option Addr) (cap : Nat) (hw : ∀ s, W64 (h s)) (htr : tr < 256) (hld : ld < 256) (w : World) (hz : Byt w a ps.length ps) (hr : rightB h tr ld ps = false) :
    Calls Tryd.prog 47 #[.agg (posA h tr ld (.slice a ps.length cap))] w fun e w' => e = .returned (.tuple #[.int .i64 0, .int .i64 2]) ∧ Below w.heap.size w w' := by
  have hb1 := (Below.refl w.heap.size w).alloc (Nat.le_refl _) (.cells (posA h tr ld (.slice a ps.length cap)) 27)
  have HRI := Lib.hid (dm_Right h tr ld ps a cap hw htr hld _ (hz.below (Nat.le_refl _) hb1))
  rw [hr] at HRI
  have HB := Lib.hid hb1
  have HR := Lib.hid (Row.new w 27 (posA h tr ld (.slice a ps.length cap)))
  obtain ⟨PA, hPA⟩ : ∃ A, posA h tr ld (.slice a ps.length cap) = A := ⟨_, rfl⟩
  have HZ : Hid (PA.size = 7) := Lib.hid (by rw [← hPA]; rfl)
  rw [hPA] at HRI HB HR ⊢
  clear hPA hb1 hz hr hw
  go_enter Tryd.func47, Tryd.ntmps47
  go_wp2_with (refine wpList_load_row rfl 27 (.tmp 1) rfl w.heap.size rfl 27 PA (0, 0) _ HR.out Tryd.underlying27 rfl (by rw [HZ.out]; exact size_pos) ?_)
  refine HRI.out.mono ?_
  rintro e w2 ⟨rfl, hb2⟩
  have HB2 := Lib.hid (HB.out.trans (hb2.mono HB.out.size))
  clear hb2
  go_wp2_with fail
  go_ret2
  exact ⟨rfl, HB2.out⟩
set_option maxHeartbeats 2000000 in
set_option maxRecDepth 10000 in
theorem dm_Solve_ok (h : Nat → Nat) (tr ld : Nat) (ps : List Nat) (a : Option Addr) (cap : Nat) (hw : ∀ s, W64 (h s)) (htr : tr < 256) (hld : ld < 256) (w : World) (hz : Byt w a ps.length ps) (hT : Tab w) (q : Nat) (hq : pop (h ((ld + ps.length) % 4)) = q) (hq4 : q ≤ 4) (hr : rightB h tr ld ps = true) :
    Calls Tryd.prog 47 #[.agg (posA h tr ld (.slice a ps.length cap))] w fun e w' => e = .returned (.tuple #[.int .i64 (val tr (4 * q - ps.length) ⟨h, ld, ps⟩ : Int), .int .i64 0]) ∧ Below w.heap.size w w' := by
  have hb1 := (Below.refl w.heap.size w).alloc (Nat.le_refl _) (.cells (posA h tr ld (.slice a ps.length cap)) 27)
  have hRP := right_of hw hr
  rw [hq] at hRP
  have h3 := hRP.ok.pk.2
  have h3' : ps.length ≤ 3 := Nat.le_of_lt_succ h3
  have HRP := Lib.hid hRP
  have HRI := Lib.hid (dm_Right h tr ld ps a cap hw htr hld _ (hz.below (Nat.le_refl _) hb1))
  have HST := Lib.hid (fun W hzW => dm_start h tr ld ps a cap h3' W hzW)
  rw [hr] at HRI
  have HB := Lib.hid hb1
  have HY := Lib.hid hz
  have HTW := Lib.hid hT
  have HR := Lib.hid (Row.new w 27 (posA h tr ld (.slice a ps.length cap)))
  have HM := Lib.hid (show (4 * q - ps.length) + ps.length = 4 * q from by
    have := hRP.some
    omega)
  have HTR := Lib.hid htr
  obtain ⟨PA, hPA⟩ : ∃ A, posA h tr ld (.slice a ps.length cap) = A := ⟨_, rfl⟩
  have HPA := Lib.hid hPA
  have HZ : Hid (PA.size = 7) := Lib.hid (by rw [← hPA]; rfl)
  rw [hPA] at HRI HB HR HST ⊢
  obtain ⟨T, hTT⟩ : ∃ t : Tb, Tb.mk h ld ps = t := ⟨_, rfl⟩
  have HTT := Lib.hid hTT
  have HTK := Lib.hid (show TbOk T ∧ Uniq T ∧ Evn q T from by rw [← hTT]; exact ⟨hRP.ok, hRP.uniq, hRP.evn⟩)
  have HTL := Lib.hid (show T.cs.length = ps.length from by rw [← hTT])
  rw [hTT] at HST ⊢
  clear hPA hb1 hz hr hw hRP h3 h3' hq hT hTT
  go_enter Tryd.func47, Tryd.ntmps47
  go_wp2_with (refine wpList_load_row rfl 27 (.tmp 1) rfl w.heap.size rfl 27 PA (0, 0) _ HR.out Tryd.underlying27 rfl (by rw [HZ.out]; exact size_pos) ?_)
  refine HRI.out.mono ?_
  rintro e w2 ⟨rfl, hb2⟩
  have HB2 := Lib.hid (HB.out.trans (hb2.mono HB.out.size))
  have HR2 := Lib.hid (HR.out.later hb2)
  have HL2 := Lib.hid (show w.heap.size ≤ w2.heap.size from HB2.out.size)
  clear hb2
  go_wp2_with fail
  obtain ⟨b1, hb1⟩ : ∃ b, w.heap.size = b := ⟨_, rfl⟩
  have HB1 := Lib.hid hb1
  rw [hb1] at HR2 HL2 ⊢
  clear hb1 HR
  refine wp_region_reliesS (FSol [.pointer (some ⟨b1, 4, none⟩), .int .u8 (tr : Int), undef, .agg PA, .agg (tbA T), undef, undef, .int .i64 0] w2 tr (fun v _ => v = .int .i64 (val tr (4 * q - ps.length) T : Int))) (by kernel_rfl) (by kernel_rfl) (by kernel_rfl) (by kernel_rfl) (FSol.start (Below.refl _ _).drew) ?obls ?fini
  case obls =>
    refine ⟨?_, ?_, ?_, ?_, ?_, ?_, ?_, ?_, trivial⟩
    · rintro ρ f W hF hfi hw hcl hf
      have f1 : ρ (.tmp 1) = .pointer (some ⟨b1, 0, none⟩) := hf.1 1 (by simp [Op.operands])
      exact ok_value (v := .pointer (some ⟨b1, 4, none⟩)) (w' := W) (by simp [execOp, f1, go_sem]) (hF.pure 0 _ (by decide) rfl (Below.refl _ _) (.inl rfl))
    · rintro ρ f W hF hfi hw hcl hf
      have f7 : ρ (.tmp 7) = .pointer (some ⟨b1, 4, none⟩) := hF.val 0 _ _ (by decide) (by decide) (by decide) (hf.1 7 (by simp [Op.operands])) rfl
      have ck : W.cell? ⟨b1, 4, none⟩ = some (.int .u8 (tr : Int)) := ((HR2.out.later hF.st).cell 4).trans (by rw [← HPA.out]; rfl)
      exact ok_value (v := .int .u8 (tr : Int)) (w' := W) (by simp [execOp, f7, go_sem, ck]) (hF.pure 1 _ (by decide) rfl (Below.refl _ _) (.inl rfl))
    · rintro ρ f W hF hfi hw hcl hf
      have f8 : ρ (.tmp 8) = .int .u8 (tr : Int) := hF.val 1 _ _ (by decide) (by decide) (by decide) (hf.1 8 (by simp [Op.operands, Call.operands])) rfl
      have h5 : f 5 = none := by
        rcases h : f 5 with _ | v
        · rfl
        · have := hcl 5 (by rw [h]; rfl) 2 (by decide)
          rw [hfi] at this; cases this
      refine ok_call (f := 36) (args := #[.int .u8 (tr : Int)]) (by simp [execOp, f8, hf.2.2.2, go_sem]) ((dm_newSolver tr W).mono ?_)
      rintro e w5 ⟨rfl, rfl⟩
      exact ⟨_, rfl, hF.made h5 (slv_new tr W) (((Below.refl _ _).alloc (Nat.le_refl _) _).alloc (by simp) _) (Nat.le_refl _)⟩
    · rintro ρ f W hF hfi hw hcl hf
      have f1 : ρ (.tmp 1) = .pointer (some ⟨b1, 0, none⟩) := hf.1 1 (by simp [Op.operands])
      exact ok_value (exec_load_row 27 (.tmp 1) rfl b1 f1 (HR2.out.later hF.st) Tryd.underlying27 rfl (by rw [HZ.out]; exact size_pos)) (hF.pure 3 _ (by decide) rfl (Below.refl _ _) (.inl rfl))
    · rintro ρ f W hF hfi hw hcl hf
      have f10 : ρ (.tmp 10) = .agg PA := hF.val 3 _ _ (by decide) (by decide) (by decide) (hf.1 10 (by simp [Op.operands, Call.operands])) rfl
      have h5 : f 5 = none := by
        rcases h : f 5 with _ | v
        · rfl
        · have := hcl 5 (by rw [h]; rfl) 4 (by decide)
          rw [hfi] at this; cases this
      have hbw : Below w.heap.size w W := HB2.out.trans (hF.st.mono HB2.out.size)
      refine ok_call (f := 38) (args := #[.agg PA]) (by simp [execOp, f10, hf.2.2.2, go_sem]) ((HST.out W (HY.out.below (Nat.le_refl _) hbw)).mono ?_)
      rintro e w5 ⟨rfl, hb5⟩
      exact ⟨_, rfl, hF.pure 4 _ (by decide) rfl hb5 (.inr h5)⟩
    · rintro ρ f W hF hfi hw hcl hf
      have f11 : ρ (.tmp 11) = .agg (tbA T) := hF.val 4 _ _ (by decide) (by decide) (by decide) (hf.1 11 (by simp [Op.operands, Call.operands])) rfl
      obtain ⟨bs, bm, f9, hbm, hsl⟩ := hF.sol _ (hf.1 9 (by simp [Op.operands, Call.operands]))
      have hsl := hsl hfi
      have h6 : f 6 = none := by
        rcases h : f 6 with _ | v
        · rfl
        · have := hcl 6 (by rw [h]; rfl) 5 (by decide)
          rw [hfi] at this; cases this
      have hbw : Below w.heap.size w W := HB2.out.trans (hF.st.mono HB2.out.size)
      have hpw : 0 + 5 ^ (4 * q - ps.length) < maxLen := by
        rw [Nat.zero_add]
        exact Nat.lt_of_le_of_lt (Nat.pow_le_pow_right (by decide) (show 4 * q - ps.length ≤ 16 by omega)) (by unfold maxLen; decide)
      refine ok_call (f := 72) (args := #[.pointer (some ⟨bs, 0, none⟩), .agg (tbA T)]) (by simp [execOp, f9, f11, hf.2.2.2, go_sem]) ((dm_all HTR.out bs bm 0 T q (4 * q - ps.length) W HTK.out.1 HTK.out.2.1 HTK.out.2.2 (by rw [HTL.out]; exact HM.out) hq4 hsl (HTW.out.below HTW.out.pos hbw) hpw).mono ?_)
      rintro e w5 ⟨rfl, hs5, hb5⟩
      exact ⟨_, rfl, hF.used h6 _ rfl (hF.st.trans ⟨hb5.os, hb5.tape, hb5.output, hb5.size, fun k hk => hb5.same k (Nat.lt_of_lt_of_le hk hF.st.size) (by omega)⟩)⟩
    · rintro ρ f W hF hfi hw hcl hf
      have h12 := hf.1 12 (by simp [Op.operands])
      obtain ⟨v, hv⟩ : ∃ v, ρ (.tmp 12) = v := ⟨_, rfl⟩
      rw [hv] at h12
      exact ok_value (v := v) (w' := W) (by simp [execOp, hv]) (hF.told h12)
    · rintro ρ f W hF hfi hw hcl hf
      exact ok_value (v := .int .i64 0) (w' := W) (by simp [execOp, hf.2.1]) (hF.pure 7 _ (by decide) rfl (Below.refl _ _) (.inl rfl))
  case fini =>
    rintro vs w8 hlen hF
    have hl0 : vs.length = 8 := hlen
    match vs, hl0 with
    | [v0, v1, v2, v3, v4, v5, v6, v7], _ =>
      obtain ⟨hres, h6⟩ := hF.res v5 rfl
      obtain rfl := h6 v6 rfl
      obtain rfl := hF.val 7 v7 _ (by decide) (by decide) (by decide) rfl rfl
      have HST8 := Lib.hid hF.st
      have HRES := Lib.hid hres
      simp only [putAll, List.zip_cons_cons, List.zip_nil_right, List.foldl_cons, List.foldl_nil]
      simp only [Act.put, List.setIfInBounds_toArray, List.set_cons_succ, List.set_cons_zero]
      clear hF hlen h6 hres
      go_wp2_with fail
      go_ret2
      have HBB : Below w.heap.size w w8 := HB2.out.trans (HST8.out.mono HB2.out.size)
      exact ⟨by rw [show v6 = _ from HRES.out]; rfl, HBB⟩
end Go.Proofs.YtnbillhodbcfbaaDoor
