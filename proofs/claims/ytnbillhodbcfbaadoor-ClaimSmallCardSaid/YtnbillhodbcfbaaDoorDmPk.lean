/- Positions over this seat's program: Choices. -/
import Derived.Test.YtnbillhodbcfbaaDoorDmPj
import Derived.Test.YtnbillhodbcfbaaDoorMDpg
namespace Go.Proofs.YtnbillhodbcfbaaDoor
open Go.RowKit Go.Sort Go.Shelf Go.Maps Go.WideMaps

/-- what Choices gives back -/
def ChoicesOk (l : List (Nat × Nat)) (w : World) (e : Ending) (w' : World) : Prop := ∃ v, e = .returned (.tuple #[v, .int .i64 0]) ∧ OwnC w' w.heap.size v l ∧ Below w.heap.size w w'
set_option maxHeartbeats 1000000 in
set_option maxRecDepth 10000 in
theorem dm_Choices_no (h : Nat → Nat) (tr ld : Nat) (ps : List Nat) (a : Option Addr) (cap : Nat) (hw : ∀ s, W64 (h s)) (htr : tr < 256) (hld : ld < 256) (w : World) (hz : Byt w a ps.length ps) (hr : rightB h tr ld ps = false) :
    Calls Tryd.prog 12 #[.agg (posA h tr ld (.slice a ps.length cap))] w fun e w' => e = .returned (.tuple #[.slice none 0 0, .int .i64 2]) ∧ Below w.heap.size w w' := by
  have hb1 := (Below.refl w.heap.size w).alloc (Nat.le_refl _) (.cells (posA h tr ld (.slice a ps.length cap)) 27)
  have HRI := Lib.hid (dm_Right h tr ld ps a cap hw htr hld _ (hz.below (Nat.le_refl _) hb1))
  rw [hr] at HRI
  have HB := Lib.hid hb1
  have HR := Lib.hid (Row.new w 27 (posA h tr ld (.slice a ps.length cap)))
  obtain ⟨PA, hPA⟩ : ∃ A, posA h tr ld (.slice a ps.length cap) = A := ⟨_, rfl⟩
  have HZ : Hid (PA.size = 7) := Lib.hid (by rw [← hPA]; rfl)
  rw [hPA] at HRI HB HR ⊢
  clear hPA hb1 hz hr hw
  go_enter Tryd.func12, Tryd.ntmps12
  go_wp2_with (refine wpList_load_row rfl 27 (.tmp 1) rfl w.heap.size rfl 27 PA (0, 0) _ HR.out Tryd.underlying27 rfl (by rw [HZ.out]; exact size_pos) ?_)
  refine HRI.out.mono ?_
  rintro e w2 ⟨rfl, hb2⟩
  have HB2 := Lib.hid (HB.out.trans (hb2.mono HB.out.size))
  clear hb2
  go_wp2_with fail
  go_ret2
  exact ⟨rfl, HB2.out⟩
set_option maxHeartbeats 2000000 in
set_option maxRecDepth 10000 in
theorem dm_Choices_ok (h : Nat → Nat) (tr ld : Nat) (ps : List Nat) (a : Option Addr) (cap : Nat) (hw : ∀ s, W64 (h s)) (htr : tr < 256) (hld : ld < 256) (w : World) (hz : Byt w a ps.length ps) (hT : Tab w) (q : Nat) (hq : pop (h ((ld + ps.length) % 4)) = q) (hq4 : q ≤ 4) (hr : rightB h tr ld ps = true) :
    Calls Tryd.prog 12 #[.agg (posA h tr ld (.slice a ps.length cap))] w fun e w' => (ChoicesOk ((Tb.mk h ld ps).cards.map fun c => (c, worth tr (4 * q - ps.length - 1) ⟨h, ld, ps⟩ c)) w) e w' := by
  have hb1 := (Below.refl w.heap.size w).alloc (Nat.le_refl _) (.cells (posA h tr ld (.slice a ps.length cap)) 27)
  have hRP := right_of hw hr
  rw [hq] at hRP
  have h3 := hRP.ok.pk.2
  have h3' : ps.length ≤ 3 := Nat.le_of_lt_succ h3
  have HRP := Lib.hid hRP
  have HRI := Lib.hid (dm_Right h tr ld ps a cap hw htr hld _ (hz.below (Nat.le_refl _) hb1))
  have HST := Lib.hid (fun W hzW => dm_start h tr ld ps a cap h3' W hzW)
  rw [hr] at HRI
  have HB := Lib.hid hb1
  have HY := Lib.hid hz
  have HTW := Lib.hid hT
  have HR := Lib.hid (Row.new w 27 (posA h tr ld (.slice a ps.length cap)))
  have HM := Lib.hid (show (4 * q - ps.length) + ps.length = 4 * q from by
    have := hRP.some
    omega)
  have HTR := Lib.hid htr
  obtain ⟨PA, hPA⟩ : ∃ A, posA h tr ld (.slice a ps.length cap) = A := ⟨_, rfl⟩
  have HPA := Lib.hid hPA
  have HZ : Hid (PA.size = 7) := Lib.hid (by rw [← hPA]; rfl)
  rw [hPA] at HRI HB HR HST ⊢
  obtain ⟨T, hTT⟩ : ∃ t : Tb, Tb.mk h ld ps = t := ⟨_, rfl⟩
  have HTT := Lib.hid hTT
  have HTK := Lib.hid (show TbOk T ∧ Uniq T ∧ Evn q T from by rw [← hTT]; exact ⟨hRP.ok, hRP.uniq, hRP.evn⟩)
  have HTL := Lib.hid (show T.cs.length = ps.length from by rw [← hTT])
  rw [hTT] at HST ⊢
  clear hPA hb1 hz hr hw hRP h3 h3' hq hT hTT
  go_enter Tryd.func12, Tryd.ntmps12
  go_wp2_with (refine wpList_load_row rfl 27 (.tmp 1) rfl w.heap.size rfl 27 PA (0, 0) _ HR.out Tryd.underlying27 rfl (by rw [HZ.out]; exact size_pos) ?_)
  refine HRI.out.mono ?_
  rintro e w2 ⟨rfl, hb2⟩
  have HB2 := Lib.hid (HB.out.trans (hb2.mono HB.out.size))
  have HR2 := Lib.hid (HR.out.later hb2)
  have HL2 := Lib.hid (show w.heap.size ≤ w2.heap.size from HB2.out.size)
  clear hb2
  go_wp2_with fail
  obtain ⟨b1, hb1⟩ : ∃ b, w.heap.size = b := ⟨_, rfl⟩
  have HB1 := Lib.hid hb1
  rw [hb1] at HR2 HL2 ⊢
  clear hb1 HR
  have HPL := Lib.hid (show ps.length < 4 from by have := HTL.out; have := HTK.out.1.pk.2; omega)
  refine wp_region_reliesS (FSol [.pointer (some ⟨b1, 4, none⟩), .int .u8 (tr : Int), undef, .agg PA, .agg (tbA T), undef, undef, .int .i64 0] w2 tr (fun v W => OwnC W w2.heap.size v (T.cards.map fun c => (c, worth tr (4 * q - ps.length - 1) T c)))) (by kernel_rfl) (by kernel_rfl) (by kernel_rfl) (by kernel_rfl) (FSol.start (Below.refl _ _).drew) ?obls ?fini
  case obls =>
    refine ⟨?_, ?_, ?_, ?_, ?_, ?_, ?_, ?_, trivial⟩
    · rintro ρ f W hF hfi hw hcl hf
      have f1 : ρ (.tmp 1) = .pointer (some ⟨b1, 0, none⟩) := hf.1 1 (by simp [Op.operands])
      exact ok_value (v := .pointer (some ⟨b1, 4, none⟩)) (w' := W) (by simp [execOp, f1, go_sem]) (hF.pure 0 _ (by decide) rfl (Below.refl _ _) (.inl rfl))
    · rintro ρ f W hF hfi hw hcl hf
      have f7 : ρ (.tmp 7) = .pointer (some ⟨b1, 4, none⟩) := hF.val 0 _ _ (by decide) (by decide) (by decide) (hf.1 7 (by simp [Op.operands])) rfl
      have ck : W.cell? ⟨b1, 4, none⟩ = some (.int .u8 (tr : Int)) := ((HR2.out.later hF.st).cell 4).trans (by rw [← HPA.out]; rfl)
      exact ok_value (v := .int .u8 (tr : Int)) (w' := W) (by simp [execOp, f7, go_sem, ck]) (hF.pure 1 _ (by decide) rfl (Below.refl _ _) (.inl rfl))
    · rintro ρ f W hF hfi hw hcl hf
      have f8 : ρ (.tmp 8) = .int .u8 (tr : Int) := hF.val 1 _ _ (by decide) (by decide) (by decide) (hf.1 8 (by simp [Op.operands, Call.operands])) rfl
      have h5 : f 5 = none := by
        rcases h : f 5 with _ | v
        · rfl
        · have := hcl 5 (by rw [h]; rfl) 2 (by decide)
          rw [hfi] at this; cases this
      refine ok_call (f := 36) (args := #[.int .u8 (tr : Int)]) (by simp [execOp, f8, hf.2.2.2, go_sem]) ((dm_newSolver tr W).mono ?_)
      rintro e w5 ⟨rfl, rfl⟩
      exact ⟨_, rfl, hF.made h5 (slv_new tr W) (((Below.refl _ _).alloc (Nat.le_refl _) _).alloc (by simp) _) (Nat.le_refl _)⟩
    · rintro ρ f W hF hfi hw hcl hf
      have f1 : ρ (.tmp 1) = .pointer (some ⟨b1, 0, none⟩) := hf.1 1 (by simp [Op.operands])
      exact ok_value (exec_load_row 27 (.tmp 1) rfl b1 f1 (HR2.out.later hF.st) Tryd.underlying27 rfl (by rw [HZ.out]; exact size_pos)) (hF.pure 3 _ (by decide) rfl (Below.refl _ _) (.inl rfl))
    · rintro ρ f W hF hfi hw hcl hf
      have f10 : ρ (.tmp 10) = .agg PA := hF.val 3 _ _ (by decide) (by decide) (by decide) (hf.1 10 (by simp [Op.operands, Call.operands])) rfl
      have h5 : f 5 = none := by
        rcases h : f 5 with _ | v
        · rfl
        · have := hcl 5 (by rw [h]; rfl) 4 (by decide)
          rw [hfi] at this; cases this
      have hbw : Below w.heap.size w W := HB2.out.trans (hF.st.mono HB2.out.size)
      refine ok_call (f := 38) (args := #[.agg PA]) (by simp [execOp, f10, hf.2.2.2, go_sem]) ((HST.out W (HY.out.below (Nat.le_refl _) hbw)).mono ?_)
      rintro e w5 ⟨rfl, hb5⟩
      exact ⟨_, rfl, hF.pure 4 _ (by decide) rfl hb5 (.inr h5)⟩
    · rintro ρ f W hF hfi hw hcl hf
      have f11 : ρ (.tmp 11) = .agg (tbA T) := hF.val 4 _ _ (by decide) (by decide) (by decide) (hf.1 11 (by simp [Op.operands, Call.operands])) rfl
      obtain ⟨bs, bm, f9, hbm, hsl⟩ := hF.sol _ (hf.1 9 (by simp [Op.operands, Call.operands]))
      have hsl := hsl hfi
      have h6 : f 6 = none := by
        rcases h : f 6 with _ | v
        · rfl
        · have := hcl 6 (by rw [h]; rfl) 5 (by decide)
          rw [hfi] at this; cases this
      have hbw : Below w.heap.size w W := HB2.out.trans (hF.st.mono HB2.out.size)
      have hpw : 0 + 5 ^ (4 * q - ps.length) < maxLen := by
        rw [Nat.zero_add]
        exact Nat.lt_of_le_of_lt (Nat.pow_le_pow_right (by decide) (show 4 * q - ps.length ≤ 16 by omega)) (by unfold maxLen; decide)
      have hpw2 : 0 + 4 * 5 ^ (4 * q - ps.length - 1) < maxLen := by
        have h1 := Nat.pow_le_pow_right (n := 5) (by decide) (show 4 * q - ps.length - 1 ≤ 16 by omega)
        have h2 : 4 * 5 ^ 16 < maxLen := by unfold maxLen; decide
        omega
      refine ok_call (f := 37) (args := #[.pointer (some ⟨bs, 0, none⟩), .agg (tbA T)]) (by simp [execOp, f9, f11, hf.2.2.2, go_sem]) ((dm_choices HTR.out bs bm 0 T q (4 * q - ps.length - 1) W HTK.out.1 HTK.out.2.1 HTK.out.2.2 (fun hq0 => by rw [HTL.out]; have := HM.out; have := HPL.out; omega) hq4 hsl (HTW.out.below HTW.out.pos hbw) hpw2).mono ?_)
      rintro e w5 ⟨v5, rfl, ho5, hs5, hb5⟩
      exact ⟨_, rfl, hF.used h6 _ (ho5.mono hF.st.size) (hF.st.trans ⟨hb5.os, hb5.tape, hb5.output, hb5.size, fun k hk => hb5.same k (Nat.lt_of_lt_of_le hk hF.st.size) (by omega)⟩)⟩
    · rintro ρ f W hF hfi hw hcl hf
      have h12 := hf.1 12 (by simp [Op.operands])
      obtain ⟨v, hv⟩ : ∃ v, ρ (.tmp 12) = v := ⟨_, rfl⟩
      rw [hv] at h12
      exact ok_value (v := v) (w' := W) (by simp [execOp, hv]) (hF.told h12)
    · rintro ρ f W hF hfi hw hcl hf
      exact ok_value (v := .int .i64 0) (w' := W) (by simp [execOp, hf.2.1]) (hF.pure 7 _ (by decide) rfl (Below.refl _ _) (.inl rfl))
  case fini =>
    rintro vs w8 hlen hF
    have hl0 : vs.length = 8 := hlen
    match vs, hl0 with
    | [v0, v1, v2, v3, v4, v5, v6, v7], _ =>
      obtain ⟨hres, h6⟩ := hF.res v5 rfl
      obtain rfl := h6 v6 rfl
      obtain rfl := hF.val 7 v7 _ (by decide) (by decide) (by decide) rfl rfl
      have HST8 := Lib.hid hF.st
      have HRES := Lib.hid hres
      simp only [putAll, List.zip_cons_cons, List.zip_nil_right, List.foldl_cons, List.foldl_nil]
      simp only [Act.put, List.setIfInBounds_toArray, List.set_cons_succ, List.set_cons_zero]
      clear hF hlen h6 hres
      go_wp2_with fail
      go_ret2
      have HBB : Below w.heap.size w w8 := HB2.out.trans (HST8.out.mono HB2.out.size)
      exact ⟨_, rfl, (show OwnC w8 w2.heap.size v6 _ from HRES.out).mono (by have := HL2.out; have := HB1.out; omega), HBB⟩
end Go.Proofs.YtnbillhodbcfbaaDoor
