/- Positions over this seat's program: Line. -/
import Derived.Test.YtpobcaopfeddgaaDoorDmPm
import Derived.Test.YtpobcaopfeddgaaDoorMDpg
import Derived.Deep.LoopGhost
namespace Go.Proofs.YtpobcaopfeddgaaDoor
open Go.RowKit Go.Sort Go.Shelf Go.Maps Go.WideMaps

theorem exec_load_mid {P : Program} {o : Oper} {ρ : Operand → Value} {w : World} (ty : TypeId) (x : Operand) (ho : o.op = .load ty x) (b off : Nat) (hx : ρ x = .pointer (some ⟨b, off, none⟩)) (cs : List Value) (d : TypeDesc) (hc : w.rangeAt b off cs)
    (hu : P.underlying ty = some d) (hd : d.isRow = true) (hi : (P.info? ty).map (·.size) = some cs.length) : (execOp ρ o).run P w = .ok (.value (.agg cs.toArray)) w := by
  unfold execOp
  simp only [ho, hx, Instr.loadAt, Instr.sureAddr, Sem.run_bind, Sem.run_pure, Result.andThen_ok, run_loadVar_mid w b off ty cs d hc hu hd hi]
theorem own_apart {α : Type} {enc : α → List Value} {m : Nat} {T T' : TypeId} {w : World} {base b : Nat} {v : Value} {l : List α} {cs : Array Value} (h : Owns enc m T w base v l) (hr : Row w b T' cs) (hne : T' ≠ T) : some b ≠ v.ownBlock := by
  intro e
  rcases h.2.2 with ⟨h1, -⟩ | ⟨g, cap, cur, h1, h2, h3, h4⟩
  · rw [h1] at e; cases e
  · rw [h1] at e
    obtain rfl : b = g := by simpa [Value.ownBlock] using e
    have hr : w.heap[b]? = _ := hr
    rw [hr] at h3
    simp only [Option.some.injEq, Obj.cells.injEq] at h3
    exact hne h3.2.1
theorem own_not {α : Type} {enc : α → List Value} {m : Nat} {T : TypeId} {w : World} {base b : Nat} {v : Value} {l : List α} (h : Owns enc m T w base v l) (hr : ∀ cur, w.heap[b]? ≠ some (.cells cur T (0, 0))) : some b ≠ v.ownBlock := by
  intro e
  rcases h.2.2 with ⟨h1, -⟩ | ⟨g, cap, cur, h1, h2, h3, h4⟩
  · rw [h1] at e; cases e
  · rw [h1] at e
    obtain rfl : b = g := by simpa [Value.ownBlock] using e
    exact hr _ h3
theorem slv_not {tr bs bm n : Nat} {W : World} (h : Slv tr bs bm n W) (T : TypeId) : ∀ cur, W.heap[bm]? ≠ some (.cells cur T (0, 0)) := by
  intro cur e
  obtain ⟨D, ⟨es, clock, hb, -⟩, -⟩ := h.map
  rw [hb] at e
  cases e
theorem But.grown {B bm : Nat} {W W' : World} (h : But B bm W W') (hB : W.heap.size ≤ B) : W.grownBy W' (some bm) := ⟨h.os, h.tape, h.output, h.size, fun k hk hne => h.same k (Nat.lt_of_lt_of_le hk hB) fun e => hne (by rw [e])⟩
theorem can_zero {t : Tb} (h : TbOk t) (he : Evn 0 t) : canM t = 0 := by
  have h1 := can_len h he
  apply Nat.eq_of_testBit_eq
  intro c
  rw [Nat.zero_testBit]
  cases hb : (canM t).testBit c
  · rfl
  · have h2 := (mem_bits (canM_w64 h) (c := c)).2 hb
    rw [List.length_eq_zero_iff.1 (by omega : (bitsList (canM t)).length = 0)] at h2
    cases h2
theorem can_some {t : Tb} (h : TbOk t) {q : Nat} (he : Evn q t) (hq : 0 < q) : canM t ≠ 0 := by
  intro e
  have h1 := canM_list h
  rw [e, bitsList_zero] at h1
  exact cards_some h he hq h1.symm
theorem size_ch : (Tryd.prog.info? 43).map (·.size) = some 2 := by kernel_rfl
set_option maxHeartbeats 1000000 in
set_option maxRecDepth 10000 in
theorem dm_Line_no (h : Nat → Nat) (tr ld : Nat) (ps : List Nat) (a : Option Addr) (cap : Nat) (hw : ∀ s, W64 (h s)) (htr : tr < 256) (hld : ld < 256) (w : World) (hz : Byt w a ps.length ps) (hr : rightB h tr ld ps = false) :
    Calls Tryd.prog 15 #[.agg (posA h tr ld (.slice a ps.length cap))] w fun e w' => e = .returned (.tuple #[.slice none 0 0, .int .i64 2]) ∧ Below w.heap.size w w' := by
  have hb1 := (Below.refl w.heap.size w).alloc (Nat.le_refl _) (.cells (posA h tr ld (.slice a ps.length cap)) 27)
  have HRI := Lib.hid (dm_Right h tr ld ps a cap hw htr hld _ (hz.below (Nat.le_refl _) hb1))
  rw [hr] at HRI
  have HB := Lib.hid hb1
  have HR := Lib.hid (Row.new w 27 (posA h tr ld (.slice a ps.length cap)))
  obtain ⟨PA, hPA⟩ : ∃ A, posA h tr ld (.slice a ps.length cap) = A := ⟨_, rfl⟩
  have HZ : Hid (PA.size = 7) := Lib.hid (by rw [← hPA]; rfl)
  rw [hPA] at HRI HB HR ⊢
  clear hPA hb1 hz hr hw
  go_enter Tryd.func15, Tryd.ntmps15
  go_wp2_with (refine wpList_load_row rfl 27 (.tmp 1) rfl w.heap.size rfl 27 PA (0, 0) _ HR.out Tryd.underlying27 rfl (by rw [HZ.out]; exact size_pos) ?_)
  refine HRI.out.mono ?_
  rintro e w2 ⟨rfl, hb2⟩
  have HB2 := Lib.hid (HB.out.trans (hb2.mono HB.out.size))
  clear hb2
  go_wp2_with fail
  go_ret2
  exact ⟨rfl, HB2.out⟩
/-- between the rounds of Line: k cards are left, P is the line so far -/
structure LI (tr bs bm b1 base : Nat) (PA : Array Value) (L : List Nat) (M k bt : Nat) (u : Tb) (v : Value) (P : List Nat) (W : World) : Prop where
  pos : Row W b1 27 PA
  tab : Row W bt 74 (tbA u)
  ok : TbOk u
  uniq : Uniq u
  evn : ∃ q, Evn q u ∧ k + u.cs.length = 4 * q ∧ q ≤ 4
  slv : Slv tr bs bm (5 ^ M - 5 ^ k) W
  tb : Tab W
  own : OwnU W base v P
  sum : P ++ lineV tr k u = L
  kM : k ≤ M ∧ M ≤ 16
  bt : base ≤ bt
/-- what Line gives back -/
def LineOk (L : List Nat) (w : World) (e : Ending) (w' : World) : Prop := ∃ v, e = .returned (.tuple #[v, .int .i64 0]) ∧ OwnU w' w.heap.size v L ∧ Below w.heap.size w w'
set_option maxHeartbeats 4000000 in
set_option maxRecDepth 10000 in
theorem dm_Line_ok (h : Nat → Nat) (tr ld : Nat) (ps : List Nat) (a : Option Addr) (cap : Nat) (hw : ∀ s, W64 (h s)) (htr : tr < 256) (hld : ld < 256) (w : World) (hz : Byt w a ps.length ps) (hT : Tab w) (q : Nat) (hq : pop (h ((ld + ps.length) % 4)) = q) (hq4 : q ≤ 4) (hr : rightB h tr ld ps = true) :
    Calls Tryd.prog 15 #[.agg (posA h tr ld (.slice a ps.length cap))] w (LineOk (lineV tr (4 * q - ps.length) ⟨h, ld, ps⟩) w) := by
  have hb1 := (Below.refl w.heap.size w).alloc (Nat.le_refl _) (.cells (posA h tr ld (.slice a ps.length cap)) 27)
  have hRP := right_of hw hr
  rw [hq] at hRP
  have h3 := hRP.ok.pk.2
  have h3' : ps.length ≤ 3 := Nat.le_of_lt_succ h3
  have HRI := Lib.hid (dm_Right h tr ld ps a cap hw htr hld _ (hz.below (Nat.le_refl _) hb1))
  have HST := Lib.hid (fun W hzW => dm_start h tr ld ps a cap h3' W hzW)
  rw [hr] at HRI
  have HB := Lib.hid hb1
  have HY := Lib.hid hz
  have HTW := Lib.hid hT
  have HR := Lib.hid (Row.new w 27 (posA h tr ld (.slice a ps.length cap)))
  have HM := Lib.hid (show (4 * q - ps.length) + ps.length = 4 * q from by
    have := hRP.some
    omega)
  have HTR := Lib.hid htr
  have HQ4 := Lib.hid hq4
  have HC4 : Hid ((posA h tr ld (.slice a ps.length cap))[4]? = some (.int .u8 (tr : Int))) := Lib.hid rfl
  obtain ⟨PA, hPA⟩ : ∃ A, posA h tr ld (.slice a ps.length cap) = A := ⟨_, rfl⟩
  have HPA := Lib.hid hPA
  have HZ : Hid (PA.size = 7) := Lib.hid (by rw [← hPA]; rfl)
  rw [hPA] at HRI HB HR HST HC4 ⊢
  obtain ⟨T, hTT⟩ : ∃ t : Tb, Tb.mk h ld ps = t := ⟨_, rfl⟩
  have HTK := Lib.hid (show TbOk T ∧ Uniq T ∧ Evn q T from by rw [← hTT]; exact ⟨hRP.ok, hRP.uniq, hRP.evn⟩)
  have HTL := Lib.hid (show T.cs.length = ps.length from by rw [← hTT])
  rw [hTT] at HST ⊢
  obtain ⟨M, hMM⟩ : ∃ M, 4 * q - ps.length = M := ⟨_, rfl⟩
  rw [hMM] at HM ⊢
  obtain ⟨L, hLL⟩ : ∃ L, lineV tr M T = L := ⟨_, rfl⟩
  have HLL := Lib.hid hLL
  rw [hLL]
  obtain ⟨TA, hTA⟩ : ∃ A, tbA T = A := ⟨_, rfl⟩
  have HTA := Lib.hid hTA
  have HTZ : Hid (TA.size = 10 ∧ TA.all (·.oneCell') = true) := Lib.hid (by rw [← hTA]; exact ⟨rfl, tbA_one _⟩)
  rw [hTA] at HST
  clear hPA hb1 hz hr hw hRP h3 h3' hq hT hTT hMM hLL hTA hq4 htr
  go_enter Tryd.func15, Tryd.ntmps15
  go_wp2_with (refine wpList_load_row rfl 27 (.tmp 1) rfl w.heap.size rfl 27 PA (0, 0) _ HR.out Tryd.underlying27 rfl (by rw [HZ.out]; exact size_pos) ?_)
  refine HRI.out.mono ?_
  rintro e w2 ⟨rfl, hb2⟩
  have HB2 := Lib.hid (HB.out.trans (hb2.mono HB.out.size))
  have HR2 := Lib.hid (HR.out.later hb2)
  have c4 := (HR2.out.cell 4).trans HC4.out
  clear hb2 HR HB
  go_wp2_with fail
  refine (dm_newSolver tr w2).mono ?_
  rintro e w3 ⟨rfl, rfl⟩
  have ha := ((Below.refl w2.heap.size w2).alloc (Nat.le_refl _) (.map #[] 0)).alloc (by simp) (.cells #[.int .u8 (tr : Int), .map (some w2.heap.size)] 91)
  have HSV := Lib.hid (slv_new tr w2)
  have HB3 := Lib.hid (HB2.out.trans (ha.mono HB2.out.size))
  have HR3 := Lib.hid (HR2.out.later ha)
  have HLB := Lib.hid (show w.heap.size < w2.heap.size from HR2.out.lt)
  clear ha c4 HB2 HR2
  obtain ⟨bm, hbm⟩ : ∃ b, w2.heap.size = b := ⟨_, rfl⟩
  have HBMS := Lib.hid hbm
  rw [hbm] at HSV HLB HB3 HR3 ⊢
  clear hbm
  generalize (w2.alloc (.map #[] 0)).alloc (.cells #[.int .u8 (tr : Int), .map (some bm)] 91) = W3 at *
  go_wp2_with (refine wpList_load_row rfl 27 (.tmp 1) rfl w.heap.size rfl 27 PA (0, 0) _ HR3.out Tryd.underlying27 rfl (by rw [HZ.out]; exact size_pos) ?_)
  refine (HST.out W3 (HY.out.below (Nat.le_refl _) HB3.out)).mono ?_
  rintro e w4 ⟨rfl, hb4⟩
  have HN4 := Lib.hid (Row.new w4 74 zeroT)
  have hr4 : Row ((w4.alloc (.cells zeroT 74)).setRow w4.heap.size TA) w4.heap.size 74 TA := setRow_heap _ _ _ _ _ _ HN4.out
  have ha := below_setRow ((Below.refl w4.heap.size w4).alloc (Nat.le_refl _) (.cells zeroT 74)) (Nat.le_refl _) TA
  have HR5 := Lib.hid hr4
  have HB5 := Lib.hid ((HB3.out.trans (hb4.mono HB3.out.size)).trans (ha.mono (Nat.le_trans HB3.out.size hb4.size)))
  have HP5 := Lib.hid ((HR3.out.later hb4).later ha)
  have HS5 := Lib.hid ((HSV.out.below hb4).below ha)
  have HL5 := Lib.hid (show bm + 1 < w4.heap.size from (HSV.out.below hb4).lt.1)
  clear hb4 ha hr4 HR3 HB3 HSV
  go_upto_region 6 with (refine wpList_store_row rfl 74 (.tmp 6) (.tmp 19) rfl w4.heap.size TA rfl rfl 74 _ HN4.out (by rw [HTZ.out.1]; exact size_tb) (by rw [HTZ.out.1]; rfl) HTZ.out.2 ?_)
  generalize (w4.alloc (.cells zeroT 74)).setRow w4.heap.size TA = W6 at *
  obtain ⟨b6, hb6⟩ : ∃ b, w4.heap.size = b := ⟨_, rfl⟩
  rw [hb6] at HR5 HL5 ⊢
  clear hb6
  obtain ⟨b1, hb1⟩ : ∃ b, w.heap.size = b := ⟨_, rfl⟩
  have HB1 := Lib.hid hb1
  rw [hb1] at HP5 HLB ⊢
  clear hb1
  have HL0 : Hid (∀ v W, OwnU W b1 v L → Below w.heap.size w W → LineOk L w (.returned (.tuple #[v, .int .i64 0])) W) := Lib.hid fun v W h1 h2 => ⟨v, rfl, by rw [HB1.out]; exact h1, h2⟩
  dsimp only [Act.put]
  go_loopg [4, 6] M (fun k v tp wr => ∃ bt u P, tp = .pointer (some ⟨bt, 0, none⟩) ∧ LI tr (bm + 1) bm b1 b1 PA L M k bt u v P wr ∧ Below w.heap.size w wr)
  case atStart =>
    refine ⟨b6, T, [], rfl, ⟨HP5.out, by rw [HTA.out]; exact HR5.out, HTK.out.1, HTK.out.2.1, ⟨q, HTK.out.2.2, by rw [HTL.out]; exact HM.out, HQ4.out⟩, by rw [Nat.sub_self]; exact HS5.out, HTW.out.below HTW.out.pos HB5.out, Owns.nil encU_len _ _, HLL.out, ⟨Nat.le_refl _, by have := HM.out; have := HQ4.out; omega⟩, by have := HL5.out; have := HLB.out; omega⟩, HB5.out⟩
  case round =>
    obtain ⟨bt, u, P, rfl, hLI, hBw⟩ := hrel
    have HLI := Lib.hid hLI
    have HBW := Lib.hid hBw
    clear hLI hBw
    have HUZ : Hid ((tbA u).size = 10 ∧ (tbA u).all (·.oneCell') = true) := Lib.hid ⟨rfl, tbA_one _⟩
    have HUT := Lib.hid HLI.out.tab
    have HCA := Lib.hid (fun W => dm_can u HLI.out.ok W)
    have HTN := Lib.hid (fun W => dm_turn u HLI.out.ok W)
    obtain ⟨UA, hUA⟩ : ∃ A, tbA u = A := ⟨_, rfl⟩
    have HUA := Lib.hid hUA
    rw [hUA] at HUZ HUT HCA HTN
    clear hUA
    rcases Nat.eq_zero_or_pos gk with hk0 | hk0
    · have hcz : canM u = 0 := by
        obtain ⟨q', h1, h2, h3⟩ := HLI.out.evn
        have h4 := HLI.out.ok.pk.2
        obtain rfl : q' = 0 := by omega
        exact can_zero HLI.out.ok h1
      rw [hcz] at HCA
      have HSUM : Hid (P = L) := Lib.hid (by have := HLI.out.sum; rw [hk0] at this; simpa [lineV] using this)
      clear hcz hk0
      simp only [show ((0 : Nat) : Int) = 0 from rfl] at HCA
      go_wp2_with (refine wpList_load_row rfl 74 (.tmp 6) rfl bt rfl 74 UA (0, 0) _ HUT.out Tryd.underlying74 rfl (by rw [HUZ.out.1]; exact size_tb) ?_)
      refine (HCA.out _).mono ?_
      rintro e w7 ⟨rfl, hb7⟩
      have HB7 := Lib.hid hb7
      clear hb7
      go_wp2_with fail
      go_ret2
      exact HL0.out _ _ (by have h := HLI.out.own.below HB7.out; rw [HSUM.out] at h; exact h) (HBW.out.trans (HB7.out.mono HBW.out.size))
    · obtain ⟨k, rfl⟩ : ∃ k, gk = k + 1 := ⟨gk - 1, by omega⟩
      have hcz : canM u ≠ 0 := by
        obtain ⟨q', h1, h2, h3⟩ := HLI.out.evn
        exact can_some HLI.out.ok h1 (by omega)
      have hczb : ((canM u : Int) != 0) = true := by rw [bne_iff_ne]; omega
      clear hk0 hcz
      obtain ⟨cu, hcu⟩ : ∃ x, canM u = x := ⟨_, rfl⟩
      rw [hcu] at hczb HCA
      clear hcu
      go_wp2_with (refine wpList_load_row rfl 74 (.tmp 6) rfl bt rfl 74 UA (0, 0) _ HUT.out Tryd.underlying74 rfl (by rw [HUZ.out.1]; exact size_tb) ?_)
      refine (HCA.out _).mono ?_
      rintro e w7 ⟨rfl, hb7⟩
      have HB7 := Lib.hid hb7
      have HUT7 := Lib.hid (HUT.out.later hb7)
      clear hb7
      go_wp2_with (refine wpList_load_row rfl 74 (.tmp 6) rfl bt rfl 74 UA (0, 0) _ HUT7.out Tryd.underlying74 rfl (by rw [HUZ.out.1]; exact size_tb) ?_)
      obtain ⟨q', hq1, hq2, hq3⟩ := HLI.out.evn
      have hlen := HLI.out.ok.pk.2
      have hkM := HLI.out.kM
      have HPW : Hid (5 ^ M - 5 ^ (k + 1) + 4 * 5 ^ k = 5 ^ M - 5 ^ k ∧ 5 ^ M - 5 ^ (k + 1) + 4 * 5 ^ k < maxLen) := Lib.hid (by
        have h1 := Nat.pow_le_pow_right (n := 5) (by decide) hkM.1
        have h2 := Nat.pow_le_pow_right (n := 5) (by decide) hkM.2
        have h3 : 5 ^ 16 < maxLen := by unfold maxLen; decide
        rw [Nat.pow_succ] at h1 ⊢
        have h4 := Nat.pow_pos (n := k) (show 0 < 5 by decide)
        omega)
      rw [← HUA.out]
      refine (dm_choices HTR.out (bm + 1) bm (5 ^ M - 5 ^ (k + 1)) u q' k w7 HLI.out.ok HLI.out.uniq hq1 (fun _ => by omega) hq3 (HLI.out.slv.below HB7.out) (HLI.out.tb.below HLI.out.tb.pos HB7.out) HPW.out.2).mono ?_
      have HQP := Lib.hid (show 0 < q' by omega)
      have HEQ := Lib.hid (show Evn q' u ∧ k + 1 + u.cs.length = 4 * q' ∧ q' ≤ 4 from ⟨hq1, hq2, hq3⟩)
      clear hq1 hq2 hq3 hlen hkM
      rw [HUA.out]
      rintro e w8 ⟨v8, rfl, hown8, hs8, hb8⟩
      rw [HPW.out.1] at hs8
      have hlw : w.heap.size ≤ w7.heap.size := Nat.le_trans HBW.out.size HB7.out.size
      have hbm1 : w.heap.size < bm := by rw [HB1.out]; exact HLB.out
      have HS8 := Lib.hid hs8
      have HB8 := Lib.hid ((HBW.out.trans (HB7.out.mono HBW.out.size)).trans (⟨hb8.os, hb8.tape, hb8.output, hb8.size, fun k hk => hb8.same k (by omega) (by omega)⟩ : Below w.heap.size w7 w8))
      have HP8 := Lib.hid (hb8.row (HLI.out.pos.later HB7.out) (HLI.out.pos.later HB7.out).lt (by rw [← HB1.out]; omega))
      have HUT8 := Lib.hid (HUT7.out.same (hb8.same bt HUT7.out.lt (by
        intro e
        have h1 := HUT7.out
        rw [e] at h1
        exact slv_not (HLI.out.slv.below HB7.out) _ _ h1)))
      have HT8 := Lib.hid ((HLI.out.tb.below HLI.out.tb.pos HB7.out).but2 hb8 (HLI.out.tb.below HLI.out.tb.pos HB7.out).pos (tab_ne (HLI.out.slv.below HB7.out) (HLI.out.tb.below HLI.out.tb.pos HB7.out)))
      have HO8 := Lib.hid ((HLI.out.own.below HB7.out).kept (hb8.grown (Nat.le_refl _)) (.inl (own_not (HLI.out.own.below HB7.out) (slv_not (HLI.out.slv.below HB7.out) _))))
      have HLW := Lib.hid (show w.heap.size ≤ w7.heap.size ∧ w7.heap.size ≤ w8.heap.size ∧ bt < w7.heap.size from ⟨hlw, hb8.size, HUT7.out.lt⟩)
      obtain ⟨x0, rest, hxr⟩ : ∃ x0 rest, u.chs tr k = x0 :: rest := by
        have h1 : u.chs tr k ≠ [] := by unfold Tb.chs; simpa using cards_some HLI.out.ok HEQ.out.1 HQP.out
        rcases hc : u.chs tr k with _ | ⟨x, l⟩
        · exact absurd hc h1
        · exact ⟨x, l, rfl⟩
      have hown8 : OwnC w8 w7.heap.size v8 (x0 :: rest) := hxr ▸ hown8
      have HXR := Lib.hid hxr
      obtain ⟨-, h0⟩ | ⟨g, cap8, rfl, hg7, hg8, hlc, -⟩ := hown8.form
      · exact absurd h0 (by simp)
      have HCE : Hid (∀ j y, (x0 :: rest)[j]? = some y → w8.rangeAt g (j * 2) [.int .u8 (y.1 : Int), .int .i64 (y.2 : Int)]) := Lib.hid fun j y hy i x hx => by
        have hi : i < 2 := (List.getElem?_eq_some_iff.1 hx).1
        rw [hown8.cell j i hi hy]
        exact hx
      have HG := Lib.hid (show w7.heap.size ≤ g ∧ g < w8.heap.size ∧ rest.length + 1 ≤ cap8 from ⟨hg7, hg8, hlc⟩)
      clear hown8 hs8 hb8 hlw hbm1 hxr hg7 hg8 hlc
      go_wp2_with fail
      have ht2 : u.turn % 2 < 2 := Nat.mod_lt _ (by decide)
      obtain ⟨s, hs⟩ : ∃ s, u.turn % 2 = s := ⟨_, rfl⟩
      have HSE := Lib.hid hs
      have HSO := Lib.hid (fun W => dm_sideOf u.turn (by have := u.turn_lt; omega) W)
      rw [hs] at HSO ht2
      clear hs
      have HS2 := Lib.hid ht2
      have HRL := Lib.hid (show ((x0 :: rest).length : Nat) = rest.length + 1 from rfl)
      refine wp_region_reliesS (FA [.slice (some ⟨g, 0, none⟩) (rest.length + 1) cap8, .pointer (some ⟨g, 0, none⟩), .agg #[.int .u8 (x0.1 : Int), .int .i64 (x0.2 : Int)], .agg UA, .int .u8 (u.turn : Int), .int .u8 (s : Int), .func (.func 41) #[.int .u8 (s : Int)] #[], undef, undef, .func (.func 41) #[.int .u8 (s : Int)] #[]] 7 8 43 #[.int .u8 0, .int .i64 0] #[.int .u8 (x0.1 : Int), .int .i64 (x0.2 : Int)] w8.heap.size (fun W => Below w8.heap.size w8 W)) (by kernel_rfl) (by kernel_rfl) (by kernel_rfl) (by kernel_rfl) (FA.start (Below.refl _ _).drew) ?obls ?fini
      case obls =>
        refine ⟨?_, ?_, ?_, ?_, ?_, ?_, ?_, ?_, ?_, ?_, trivial⟩
        · rintro ρ f W hF hfi hw hcl hf
          have f7 : ρ (.tmp 7) = .slice (some ⟨g, 0, none⟩) (x0 :: rest).length cap8 := hf.1 7 (by simp [Op.operands])
          rw [HRL.out] at f7
          exact ok_value (v := .slice (some ⟨g, 0, none⟩) (rest.length + 1) cap8) (w' := W) (by simp [execOp, f7]) (hF.pure 0 _ (by decide) (by decide) rfl (fun h => h) (Below.refl _ _))
        · rintro ρ f W hF hfi hw hcl hf
          have f0 : ρ (.tmp 26) = .slice (some ⟨g, 0, none⟩) (rest.length + 1) cap8 := hF.val 0 _ _ (by decide) (hf.1 26 (by simp [Op.operands])) rfl
          have hpos : (0 : Int) < ((rest.length + 1 : Nat) : Int) := by omega
          exact ok_value (v := .pointer (some ⟨g, 0, none⟩)) (w' := W) (by simp [execOp, f0, hf.2.1, go_sem]) (hF.pure 1 _ (by decide) (by decide) rfl (fun h => h) (Below.refl _ _))
        · rintro ρ f W hF hfi hw hcl hf
          have f0 : ρ (.tmp 27) = .pointer (some ⟨g, 0, none⟩) := hF.val 1 _ _ (by decide) (hf.1 27 (by simp [Op.operands])) rfl
          refine ok_value (exec_load_mid 43 (.tmp 27) rfl g 0 f0 [.int .u8 (x0.1 : Int), .int .i64 (x0.2 : Int)] _ (fun j x hx => (hF.st.cell (p := ⟨g, 0 + j, none⟩) HG.out.2.1).trans ?_) Tryd.underlying43 rfl size_ch) (hF.pure 2 _ (by decide) (by decide) rfl (fun h => h) (Below.refl _ _))
          have := HCE.out 0 x0 rfl j x hx
          simpa using this
        · rintro ρ f W hF hfi hw hcl hf
          have f0 : ρ (.tmp 6) = .pointer (some ⟨bt, 0, none⟩) := hf.1 6 (by simp [Op.operands])
          exact ok_value (exec_load_row 74 (.tmp 6) rfl bt f0 (HUT8.out.later hF.st) Tryd.underlying74 rfl (by rw [HUZ.out.1]; exact size_tb)) (hF.pure 3 _ (by decide) (by decide) rfl (fun h => h) (Below.refl _ _))
        · rintro ρ f W hF hfi hw hcl hf
          have f0 : ρ (.tmp 29) = .agg UA := hF.val 3 _ _ (by decide) (hf.1 29 (by simp [Op.operands, Call.operands])) rfl
          refine ok_call (f := 40) (args := #[.agg UA]) (by simp [execOp, f0, hf.2.2.2, go_sem]) ((HTN.out W).mono ?_)
          rintro e w5 ⟨rfl, hb5⟩
          exact ⟨_, rfl, hF.pure 4 _ (by decide) (by decide) rfl (fun h => h.trans (hb5.mono h.size)) hb5⟩
        · rintro ρ f W hF hfi hw hcl hf
          have f0 : ρ (.tmp 30) = .int .u8 (u.turn : Int) := hF.val 4 _ _ (by decide) (hf.1 30 (by simp [Op.operands, Call.operands])) rfl
          refine ok_call (f := 39) (args := #[.int .u8 (u.turn : Int)]) (by simp [execOp, f0, hf.2.2.2, go_sem]) ((HSO.out W).mono ?_)
          rintro e w5 ⟨rfl, rfl⟩
          exact ⟨_, rfl, hF.pure 5 _ (by decide) (by decide) rfl (fun h => h) (Below.refl _ _)⟩
        · rintro ρ f W hF hfi hw hcl hf
          have f0 : ρ (.tmp 31) = .int .u8 (s : Int) := hF.val 5 _ _ (by decide) (hf.1 31 (by simp [Op.operands])) rfl
          exact ok_value (v := .func (.func 41) #[.int .u8 (s : Int)] #[]) (w' := W) (by simp [execOp, f0, go_sem]) (hF.pure 6 _ (by decide) (by decide) rfl (fun h => h) (Below.refl _ _))
        · rintro ρ f W hF hfi hw hcl hf
          have hs8 : f 8 = none := by
            rcases h : f 8 with _ | v
            · rfl
            · have := hcl 8 (by rw [h]; rfl) 7 (by decide)
              rw [hfi] at this; cases this
          exact ok_value (exec_alloc 43 rfl (c := #[.int .u8 0, .int .i64 0]) (fun w => by kernel_rfl)) (hF.made W.heap.size hF.st.size (by decide) hs8 (Row.new W _ _) (hF.st.alloc hF.st.size _))
        · rintro ρ f W hF hfi hw hcl hf
          have f0 : ρ (.tmp 28) = .agg #[.int .u8 (x0.1 : Int), .int .i64 (x0.2 : Int)] := hF.val 2 _ _ (by decide) (hf.1 28 (by simp [Op.operands])) rfl
          obtain ⟨c, hc, h8, hrow⟩ := hF.blk _ (hf.1 8 (by simp [Op.operands]))
          rw [hfi] at hrow
          exact ok_skip (exec_store_row 43 (.tmp 8) (.tmp 28) rfl c #[.int .u8 (x0.1 : Int), .int .i64 (x0.2 : Int)] h8 f0 hrow size_ch rfl (by simp [Value.oneCell']))
            (hF.store _ (by decide) rfl ((hf.1 8 (by simp [Op.operands])).trans (congrArg some h8)) (setRow_heap _ _ _ _ _ _ hrow) hc (below_setRow hF.st hc _))
        · rintro ρ f W hF hfi hw hcl hf
          have f0 := hF.val 6 _ _ (by decide) (hf.1 32 (by simp [Op.operands])) rfl
          exact ok_value (v := .func (.func 41) #[.int .u8 (s : Int)] #[]) (w' := W) (by simp [execOp, f0]) (hF.pure 9 _ (by decide) (by decide) rfl (fun h => h) (Below.refl _ _))
      case fini =>
        rintro vs w9 hlen hF
        have hl0 : vs.length = 10 := hlen
        match vs, hl0 with
        | [v0, v1, v2, v3, v4, v5, v6, v7, v8, v9], _ =>
          obtain ⟨b8, hb8, rfl, hrow⟩ := hF.blk v7 rfl
          obtain rfl := hF.val 9 v9 _ (by decide) rfl rfl
          have hst := hF.st
          simp only [putAll, List.zip_cons_cons, List.zip_nil_right, List.foldl_cons, List.foldl_nil]
          simp only [Act.put, List.setIfInBounds_toArray, List.set_cons_succ, List.set_cons_zero]
          have HR8 := Lib.hid hrow
          have HS9 := Lib.hid (HS8.out.below hst)
          have HB9 := Lib.hid (HB8.out.trans (hst.mono HB8.out.size))
          have HP9 := Lib.hid (HP8.out.later hst)
          have HUT9 := Lib.hid (HUT8.out.later hst)
          have HT9 := Lib.hid (HT8.out.below HT8.out.pos hst)
          have HO9 := Lib.hid (HO8.out.below hst)
          have HCE9 : Hid (∀ j y, (x0 :: rest)[j]? = some y → w9.rangeAt g (j * 2) [.int .u8 (y.1 : Int), .int .i64 (y.2 : Int)]) := Lib.hid fun j y hy i x hx => (hst.cell (p := ⟨g, j * 2 + i, none⟩) HG.out.2.1).trans (HCE.out j y hy i x hx)
          have HL8 := Lib.hid (show w8.heap.size ≤ b8 from hb8)
          have HL9 := Lib.hid (show w8.heap.size ≤ w9.heap.size from hst.size)
          have HORD := Lib.hid (show b1 ≤ bt ∧ bt < b8 ∧ g < b8 ∧ bm + 1 < b8 ∧ b8 < w9.heap.size ∧ b1 < bm from ⟨HLI.out.bt, by have h1 := HLW.out; omega, by have h1 := HG.out; omega, by have h1 := HS8.out.lt; omega, hrow.lt, HLB.out⟩)
          obtain ⟨ra, hra, hrun⟩ := rest_run g (rest.length + 1) cap8 (by omega) HG.out.2.2
          have HRA := Lib.hid hra
          rw [show rest.length + 1 - 1 = rest.length by omega] at hrun
          obtain ⟨N, hN⟩ : ∃ N, rest.length = N := ⟨_, rfl⟩
          have HN := Lib.hid hN
          rw [hN] at hrun HRA ⊢
          clear hrow hst hF hlen hb8 hra hN HS8 HB8 HP8 HUT8 HT8 HO8 HCE
          go_wp2_with fail
          clear hrun
          have HN4 : Hid (N ≤ 4) := Lib.hid (by
            have h1 := congrArg List.length HXR.out
            have h2 := can_len HLI.out.ok HEQ.out.1
            have h3 := congrArg List.length (canM_list HLI.out.ok)
            have h4 := HN.out
            have h5 := HEQ.out
            unfold Tb.chs at h1
            simp only [List.length_map, List.length_cons] at h1 h3
            omega)
          have HPL : Hid (P.length ≤ 16) := Lib.hid (by
            have h1 := congrArg List.length HLI.out.sum
            rw [List.length_append, lineV_len, ← HLL.out, lineV_len] at h1
            have := HLI.out.kM
            omega)
          have hN4 := HN4.out
          go_loopg [11, 36] N (fun gj _ i wr => ∃ j, gj = N - j ∧ j ≤ N ∧ i = .int .i64 (j : Int) ∧ Row wr b8 43 #[.int .u8 ((pickC s x0 (rest.take j)).1 : Int), .int .i64 ((pickC s x0 (rest.take j)).2 : Int)] ∧ But w9.heap.size b8 w9 wr)
          case atStart => exact ⟨0, by omega, by omega, rfl, HR8.out, But.refl _ _ _⟩
          case round =>
            obtain ⟨j, rfl, hj, rfl, hrow, hbt⟩ := hrel
            have HRW := Lib.hid hrow
            have HBT := Lib.hid hbt
            clear hrow hbt
            by_cases hlt : j < N
            · have hdj : decide (j < N) = true := by simp; omega
              have hra2 := HRA.out (by omega)
              subst hra2
              obtain ⟨y, hy⟩ : ∃ y, rest[j]? = some y := ⟨_, List.getElem?_eq_getElem (by have := HN.out; omega)⟩
              have HTK2 : Hid (pickC s x0 (rest.take (j + 1)) = if betterI s (pickC s x0 (rest.take j)).2 y.2 = (pickC s x0 (rest.take j)).2 then pickC s x0 (rest.take j) else y) := Lib.hid (by
                rw [List.take_add_one, hy, Option.toList_some, pickC_snoc])
              have HRY : Hid (wr.rangeAt g (2 + j * 2) [.int .u8 (y.1 : Int), .int .i64 (y.2 : Int)]) := Lib.hid fun i x hx => by
                have h1 := HCE9.out (j + 1) y hy i x hx
                have ho := HORD.out
                rw [show 2 + j * 2 + i = (j + 1) * 2 + i by omega]
                unfold World.cell? at h1 ⊢
                rw [HBT.out.same g (by omega) (by omega)]
                exact h1
              obtain ⟨p, hp⟩ : ∃ p, pickC s x0 (rest.take j) = p := ⟨_, rfl⟩
              have HP := Lib.hid hp
              rw [hp] at HRW HTK2
              clear hp hy
              have hji : (j : Int) < (N : Int) := by omega
              go_upto_region 12 with (refine wpList_load_mid rfl 43 (.tmp 38) rfl g (2 + j * 2) rfl _ _ HRY.out Tryd.underlying43 rfl size_ch ?_)
              have hb1w := (Below.refl wr.heap.size wr).alloc (Nat.le_refl _) (.cells #[.int .u8 (y.1 : Int), .int .i64 (y.2 : Int)] 43)
              have HRN := Lib.hid (Row.new wr 43 #[.int .u8 (y.1 : Int), .int .i64 (y.2 : Int)])
              have HRW1 := Lib.hid (HRW.out.later hb1w)
              have HBT1 := Lib.hid (HBT.out.trans (But.of_below (hb1w.mono HBT.out.size)))
              have HLN := Lib.hid (show b8 < wr.heap.size from HRW.out.lt)
              obtain ⟨bc, hbc⟩ : ∃ b, wr.heap.size = b := ⟨_, rfl⟩
              rw [hbc] at HRN HLN ⊢
              clear hb1w hbc
              generalize wr.alloc (.cells #[.int .u8 (y.1 : Int), .int .i64 (y.2 : Int)] 43) = wa at *
              have e81 : wa.cell? ⟨b8, 1, none⟩ = some (.int .i64 (p.2 : Int)) := HRW1.out.cell 1
              have ec1 : wa.cell? ⟨bc, 1, none⟩ = some (.int .i64 (y.2 : Int)) := HRN.out.cell 1
              have f81 := fun dd os => cell_regrown e81 dd os
              have fc1 := fun dd os => cell_regrown ec1 dd os
              have hbe := fun W => dm_better s HS2.out (p.2 : Int) (y.2 : Int) W
              by_cases hbeq : betterI s p.2 y.2 = p.2
              · rw [if_pos hbeq] at HTK2
                rw [hbeq] at hbe
                have HBE : Hid (∀ W, Calls Tryd.prog 41 #[.int .u8 (s : Int), .int .i64 (p.2 : Int), .int .i64 (y.2 : Int)] W fun e w' => e = .returned (.int .i64 (p.2 : Int)) ∧ Below W.heap.size W w') := Lib.hid fun W => (hbe W).mono fun _ _ ⟨h1, h2⟩ => ⟨h1, h2 ▸ Below.refl _ _⟩
                clear hbeq hbe
                refine wp_region_quiet_below (by kernel_rfl) (by kernel_rfl) ?_
                repeat (first | go_big_quiet_step (fail) | quiet_step (with_reducible exact Calls.regrown_of (HBE.out _)))
                refine wpQuiet_nil ?_
                rintro _ ⟨q2, rfl⟩
                have HD := Lib.hid (below_regrown wa q2.d q2.os)
                generalize grow (redrawn wa q2.d) q2.os = wb at *
                clear f81 fc1 e81 ec1
                go_wp2_with fail
                go_roundg (N - (j + 1))
                case measure => omega
                case rel => exact ⟨j + 1, by omega, by omega, by simp, by rw [HTK2.out]; exact HRW1.out.later HD.out, HBT1.out.trans (But.of_below (HD.out.mono HBT1.out.size))⟩
              · rw [if_neg hbeq] at HTK2
                obtain ⟨r, hr⟩ : ∃ r, betterI s p.2 y.2 = r := ⟨_, rfl⟩
                rw [hr] at hbeq hbe
                have HBE : Hid (∀ W, Calls Tryd.prog 41 #[.int .u8 (s : Int), .int .i64 (p.2 : Int), .int .i64 (y.2 : Int)] W fun e w' => e = .returned (.int .i64 r) ∧ Below W.heap.size W w') := Lib.hid fun W => (hbe W).mono fun _ _ ⟨h1, h2⟩ => ⟨h1, h2 ▸ Below.refl _ _⟩
                have hneq : (r != (p.2 : Int)) = true := by rw [bne_iff_ne]; exact hbeq
                clear hbeq hbe hr
                refine wp_region_quiet_below (by kernel_rfl) (by kernel_rfl) ?_
                repeat (first | go_big_quiet_step (fail) | quiet_step (with_reducible exact Calls.regrown_of (HBE.out _)))
                refine wpQuiet_nil ?_
                rintro _ ⟨q2, rfl⟩
                have HD := Lib.hid (below_regrown wa q2.d q2.os)
                generalize grow (redrawn wa q2.d) q2.os = wb at *
                clear f81 fc1 e81 ec1
                have HRNb := Lib.hid (HRN.out.later HD.out)
                have HRWb := Lib.hid (HRW1.out.later HD.out)
                go_wp2_with (first
                  | refine wpList_load_row rfl 43 (.tmp 11) rfl bc rfl 43 #[.int .u8 (y.1 : Int), .int .i64 (y.2 : Int)] (0, 0) _ HRNb.out Tryd.underlying43 rfl size_ch ?_
                  | refine wpList_store_row rfl 43 (.tmp 8) (.tmp 49) rfl b8 #[.int .u8 (y.1 : Int), .int .i64 (y.2 : Int)] rfl rfl 43 _ HRWb.out size_ch rfl (by simp [Value.oneCell']) ?_)
                go_roundg (N - (j + 1))
                case measure => omega
                case rel =>
                  refine ⟨j + 1, by omega, by omega, by simp, by rw [HTK2.out]; exact setRow_heap _ _ _ _ _ _ HRWb.out, ?_⟩
                  have h1 := HBT1.out.trans (But.of_below (HD.out.mono HBT1.out.size))
                  exact ⟨h1.os, h1.tape, h1.output, by simpa [World.setRow] using h1.size, fun k hk hn => (setRow_other _ _ _ _ hn).trans (h1.same k hk hn)⟩
            · obtain rfl : j = N := by omega
              have hdj : decide (j < j) = false := by simp
              have HBC : Hid ((pickC s x0 (rest.take j)).1 = u.best tr k) := Lib.hid (by
                rw [← HN.out, List.take_length]
                unfold Tb.best
                rw [HXR.out, HSE.out]; rfl)
              obtain ⟨p, hp⟩ : ∃ p, pickC s x0 (rest.take j) = p := ⟨_, rfl⟩
              rw [hp] at HRW HBC
              clear hp
              have c80 : wr.cell? ⟨b8, 0, none⟩ = some (.int .u8 (p.1 : Int)) := HRW.out.cell 0
              obtain ⟨c, hc⟩ : ∃ c, p.1 = c := ⟨_, rfl⟩
              rw [hc] at c80 HBC
              have HCE2 := Lib.hid hc
              clear hc
              have hca : c < 52 ∧ (u.h u.turn).testBit c = true := by
                have h1 : c ∈ u.cards := by rw [HBC.out]; exact best_mem (cards_some HLI.out.ok HEQ.out.1 HQP.out)
                exact legal_bit h1
              have HCA2 := Lib.hid hca
              have HOr := Lib.hid (HO9.out.kept (HBT.out.grown (Nat.le_refl _)) (.inl (own_apart HO9.out HR8.out (by decide))))
              have ho := HORD.out
              have HIr : Hid (Row wr b1 27 PA ∧ Row wr bt 74 UA) := Lib.hid ⟨HBT.out.row HP9.out (by omega) (by omega), HBT.out.row HUT9.out (by omega) (by omega)⟩
              have HSr := Lib.hid (HS9.out.but HBT.out (by have := HS9.out.lt; omega) (by omega) (by omega) (by omega))
              have HTr := Lib.hid (HT9.out.but2 HBT.out HT9.out.pos (by show 0 ≠ b8; have := HTW.out.pos; rw [HB1.out] at this; omega))
              have HBr := Lib.hid (show Below w.heap.size w wr from ⟨HBT.out.os.trans HB9.out.os, HBT.out.tape.trans HB9.out.tape, HBT.out.output.trans HB9.out.output, Nat.le_trans HB9.out.size HBT.out.size, fun k hk => (HBT.out.same k (by rw [HB1.out] at hk; omega) (by rw [HB1.out] at hk; omega)).trans (HB9.out.block k hk)⟩)
              clear hca ho
              go_upto_region 16 with (at_builtin; refine appU rfl (.tmp 51) (.tmp 54) rfl b1 u4 P [c] rfl (HOr.out.alloc _) _ _ _ rfl (byt_new1 wr c (by have := HCA2.out; omega)) (by have := HPL.out; omega) (by rw [World.size_alloc]; have := HRW.out.lt; have := HORD.out; omega) ?_; intro v2 w10 hown10 hb10 hg10 hnb10)
              try dsimp only [Act.put]
              have hgk : ∀ b T cs, Row wr b T cs → T ≠ 5 → Row w10 b T cs := fun b T cs hr hne => by
                have h1 := hr.alloc (.cells #[.int .u8 (c : Int)] 5)
                exact h1.same (hg10.block b h1.lt (own_apart (HOr.out.alloc _) h1 hne))
              have ha := (Below.refl wr.heap.size wr).alloc (Nat.le_refl _) (.cells #[.int .u8 (c : Int)] 5)
              have HP10 := Lib.hid (hgk _ _ _ HIr.out.1 (by decide))
              have HU10 := Lib.hid (hgk _ _ _ HIr.out.2 (by decide))
              have HR10 := Lib.hid (hgk _ _ _ HRW.out (by decide))
              have hsl := HSr.out.below ha
              have HS10 := Lib.hid (hsl.same (hg10.block (bm + 1) hsl.lt.1 (own_apart (HOr.out.alloc _) hsl.row (by decide))) (hg10.block bm hsl.lt.2 (own_not (HOr.out.alloc _) (slv_not hsl _))))
              have HT10 := Lib.hid (HTr.out.below (B := b1) (by have := HTW.out.pos; rw [HB1.out] at this; exact this) ((ha.mono (by have := HRW.out.lt; have := HORD.out; omega)).trans hb10))
              have HO10 := Lib.hid hown10
              have HB10 := Lib.hid (HBr.out.trans (by rw [HB1.out]; exact (ha.mono (by have := HRW.out.lt; have := HORD.out; omega)).trans hb10))
              have c80' : w10.cell? ⟨b8, 0, none⟩ = some (.int .u8 (c : Int)) := (HR10.out.cell 0).trans (by rw [← HCE2.out]; rfl)
              have c4' := (HP10.out.cell 4).trans HC4.out
              have HPU := Lib.hid (fun W => dm_put u HLI.out.ok tr c HCA2.out.1 HTR.out W)
              have HNX := Lib.hid (tbOk_put (m := k) HLI.out.ok HCA2.out.1 HCA2.out.2 HLI.out.uniq HEQ.out.1 (by have := HEQ.out; omega) tr)
              have HSUM : Hid ((P ++ [c]) ++ lineV tr k (u.put tr c).1 = L) := Lib.hid (by
                rw [← HLI.out.sum, List.append_assoc]
                show _ = P ++ (u.best tr k :: lineV tr k (u.put tr (u.best tr k)).1)
                rw [← HBC.out]; rfl)
              obtain ⟨won, hwon⟩ : ∃ x, (u.put tr c).2 = x := ⟨_, rfl⟩
              obtain ⟨u2, hu2⟩ : ∃ x, (u.put tr c).1 = x := ⟨_, rfl⟩
              rw [hwon, hu2] at HPU
              rw [hu2] at HNX HSUM
              obtain ⟨VA, hVA⟩ : ∃ A, tbA u2 = A := ⟨_, rfl⟩
              have HVA := Lib.hid hVA
              have HVZ : Hid (VA.size = 10 ∧ VA.all (·.oneCell') = true) := Lib.hid (by rw [← hVA]; exact ⟨rfl, tbA_one _⟩)
              rw [hVA, HUA.out] at HPU
              clear hgk ha hsl hown10 hb10 hg10 hnb10 hwon hu2 hVA c80
              go_wp2_with (refine wpList_load_row rfl 74 (.tmp 6) rfl bt rfl 74 UA (0, 0) _ HU10.out Tryd.underlying74 rfl (by rw [HUZ.out.1]; exact size_tb) ?_)
              refine (HPU.out _).mono ?_
              rintro e w11 ⟨rfl, hb11⟩
              have HU11 := Lib.hid (HU10.out.later hb11)
              have HP11 := Lib.hid (HP10.out.later hb11)
              have HS11 := Lib.hid (HS10.out.below hb11)
              have HT11 := Lib.hid (HT10.out.below HT10.out.pos hb11)
              have HO11 := Lib.hid (HO10.out.below hb11)
              have HB11 := Lib.hid (HB10.out.trans (hb11.mono HB10.out.size))
              clear hb11 c80' c4'
              have hso : ∀ b, b ≠ bt → (w11.setRow bt VA).heap[b]? = w11.heap[b]? := fun b hb => setRow_other _ _ _ _ hb
              have hr12 : Row (w11.setRow bt VA) bt 74 VA := setRow_heap _ _ _ _ _ _ HU11.out
              have HU12 := Lib.hid hr12
              have ho := HORD.out
              have HP12 := Lib.hid (HP11.out.same (hso b1 (by
                intro e
                have h1 := HP11.out
                have h2 := HU11.out
                have h1 : w11.heap[b1]? = _ := h1
                have h2 : w11.heap[bt]? = _ := h2
                rw [e, h2] at h1
                simp only [Option.some.injEq, Obj.cells.injEq] at h1
                exact absurd h1.2.1 (by decide))))
              have HS12 := Lib.hid (HS11.out.same (hso _ (by
                intro e
                have h1 : w11.heap[bm + 1]? = _ := HS11.out.row
                have h2 : w11.heap[bt]? = _ := HU11.out
                rw [e, h2] at h1
                simp only [Option.some.injEq, Obj.cells.injEq] at h1
                exact absurd h1.2.1 (by decide))) (hso _ (by
                intro e
                have h2 : w11.heap[bt]? = _ := HU11.out
                rw [← e] at h2
                exact slv_not HS11.out _ _ h2)))
              have HO12 := Lib.hid (HO11.out.kept (w' := w11.setRow bt VA) (row := some bt) ⟨rfl, rfl, rfl, by simp [World.setRow], fun b _ hb => hso b fun e => hb (by rw [e])⟩ (.inl (own_apart HO11.out HU11.out (by decide))))
              have hbt1 := ho.1
              have HB12 := Lib.hid (below_setRow HB11.out (by rw [HB1.out]; exact ho.1) VA)
              have HT12 := Lib.hid (HT11.out.below (B := b1) (by have := HTW.out.pos; rw [HB1.out] at this; exact this) (below_setRow (Below.refl b1 w11) ho.1 VA))
              clear hso hr12 ho hbt1
              go_upto_region 17 with (refine wpList_store_row rfl 74 (.tmp 6) (.tmp 63) rfl bt VA rfl rfl 74 _ HU11.out (by rw [HVZ.out.1]; exact size_tb) (by rw [HVZ.out.1, HUZ.out.1]) HVZ.out.2 ?_)
              try dsimp only [Act.put]
              generalize w11.setRow bt VA = w12 at *
              have HN13 := Lib.hid (Row.new w12 74 zeroT)
              have ha := below_setRow ((Below.refl w12.heap.size w12).alloc (Nat.le_refl _) (.cells zeroT 74)) (Nat.le_refl _) VA
              have hr13 : Row ((w12.alloc (.cells zeroT 74)).setRow w12.heap.size VA) w12.heap.size 74 VA := setRow_heap _ _ _ _ _ _ HN13.out
              have HU13 := Lib.hid hr13
              have HF13 := Lib.hid (And.intro (HP12.out.later ha) (And.intro (HS12.out.below ha) (And.intro (HT12.out.below HT12.out.pos ha) (And.intro (HO12.out.below ha) (HB12.out.trans (ha.mono HB12.out.size))))))
              have HL13 := Lib.hid (show b1 ≤ w12.heap.size from Nat.le_of_lt HP12.out.lt)
              clear ha hr13
              go_wp2_with (first
                | refine wpList_load_row rfl 74 (.tmp 6) rfl bt rfl 74 VA (0, 0) _ HU12.out Tryd.underlying74 rfl (by rw [HVZ.out.1]; exact size_tb) ?_
                | refine wpList_store_row rfl 74 (.tmp 6) (.tmp 65) rfl w12.heap.size VA rfl rfl 74 _ HN13.out (by rw [HVZ.out.1]; exact size_tb) (by rw [HVZ.out.1]; rfl) HVZ.out.2 ?_)
              go_roundg k
              case measure => omega
              case rel =>
                have hf := HF13.out
                have hnx := HNX.out
                refine ⟨w12.heap.size, u2, P ++ [c], rfl, ⟨hf.1, by rw [HVA.out]; exact HU13.out, hnx.1, hnx.2.1, ?_, hf.2.1, hf.2.2.1, hf.2.2.2.1, HSUM.out, ⟨by have := HLI.out.kM; omega, HLI.out.kM.2⟩, HL13.out⟩, hf.2.2.2.2⟩
                have heq := HEQ.out
                rcases hnx.2.2.2 with ⟨h1, h2, h3, h4⟩ | ⟨h1, h2, h3, h4, h5⟩
                · exact ⟨q' - 1, h4, by rw [h1]; simpa using h3, by omega⟩
                · exact ⟨q', h4, h3, by omega⟩
end Go.Proofs.YtpobcaopfeddgaaDoor
