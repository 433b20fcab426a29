/- The solver: between. -/
import Derived.Test.YtpobcaopfeddgaaDoorDmTw
import Derived.Deep.Cut
import Derived.Deep.CutRange
namespace Go.Proofs.YtpobcaopfeddgaaDoor
open Go.RowKit Go.Sort Go.Shelf Go.Maps Go.WideMaps

theorem bndR_inv {v : Value} {d : DataW Unit} {ps : List MemPlace} (h : bndR v = some (d, ps)) : ∃ a b : Int, v = bndV a b ∧ d = bndD a b := by
  unfold bndR at h
  split at h
  · simp only [Option.some.injEq, Prod.mk.injEq] at h
    exact ⟨_, _, rfl, h.1.symm⟩
  · cases h
theorem bndD_inj {a b a' b' : Int} (h : bndD a b = bndD a' b') : a = a' ∧ b = b' := by
  unfold bndD at h
  simpa using h
/-- what a look into the map gives -/
theorem look_bnd {W0 : World} {bm n : Nat} {D : DataW Unit} (h0 : W0.ownsMap Tryd.prog 103 bndR bm n D) {h : Nat → Nat} {ld : Nat} (hh : In52 h) (hl : ld < 4) :
    ∃ a b : Int, D.atKey (keyL h ld) (bndD 0 0) = bndD a b ∧ ∀ W, W.ownsMap Tryd.prog 103 bndR bm n D → (Instr.lookup 89 (.map (some bm)) (keyV h ld) true).run Tryd.prog W = .ok (.tuple #[bndV a b, .bool (has D (keyL h ld))]) W := by
  have hk := keyOf_key h ld (fun i hi => hh.w64 hi) (by omega)
  obtain ⟨v, ps, -, hv⟩ := h0.look_ok key_keyed Tryd.underlying89 (zero_bnd W0) (bndR_at 0 0) hk
  obtain ⟨a, b, rfl, hd⟩ := bndR_inv hv
  refine ⟨a, b, hd, fun W hW => ?_⟩
  obtain ⟨v2, ps2, hrun, hv2⟩ := hW.look_ok key_keyed Tryd.underlying89 (zero_bnd W) (bndR_at 0 0) hk
  obtain ⟨a2, b2, rfl, hd2⟩ := bndR_inv hv2
  have e : D.atKey (keyL h ld) (.agg [.lit (.int .i64 0), .lit (.int .i64 0)]) = _ := hd
  rw [e] at hd2
  obtain ⟨rfl, rfl⟩ := bndD_inj hd2
  exact hrun
theorem shr4_val {h : Nat → Nat} (hh : In52 h) (ld tr n : Nat) : val tr n ⟨shr4 h, ld, []⟩ = val tr n ⟨h, ld, []⟩ := iso_val n (shr4_iso hh ld tr) ⟨hh, by simp⟩ ⟨shr4_in hh, by simp⟩
theorem evn_zero {h : Nat → Nat} {ld q : Nat} (hl : ld < 4) (he : Evn q ⟨h, ld, []⟩) : pop (h 0) = q := by
  have := he ((4 - ld) % 4) (Nat.mod_lt _ (by decide))
  rw [if_neg (by simp), show (Tb.mk h ld []).ld = ld from rfl, show (ld + (4 - ld) % 4) % 4 = 0 by omega] at this
  exact this
theorem size_key : (Tryd.prog.info? 103).map (·.size) = some 5 := by kernel_rfl
theorem size_bnd : (Tryd.prog.info? 105).map (·.size) = some 2 := by kernel_rfl
set_option maxHeartbeats 2000000 in
set_option maxRecDepth 10000 in
theorem dm_between (tr q : Nat) (htr : tr < 256) (hW : WOk tr (4 * q)) : BOk tr q := by
  intro bs bm n h ld lo hi w hh hu hld he hq hlh h7 hlo hs hT hn
  have HW := Lib.hid hW
  have HH := Lib.hid hh
  have HU := Lib.hid hu
  have HE := Lib.hid he
  have HN := Lib.hid hn
  have HS := Lib.hid hs
  have HT := Lib.hid hT
  have HP := Lib.hid (evn_zero hld he)
  have HF := Lib.hid (show lo < hi ∧ hi ≤ 7 ∧ (q : Int) - 1000 ≤ lo ∧ q ≤ 4 ∧ tr < 256 ∧ ld < 4 from ⟨hlh, h7, hlo, hq, htr, hld⟩)
  have HONE := Lib.hid (fun W => bits_ones (h 0) (hh.w64 (by decide)) W)
  rw [HP.out] at HONE
  clear hW hh hu he hn hs hT hlh h7 hlo htr
  have HR6 := Lib.hid (Row.new w 24 (deA h))
  have HB6 := Lib.hid ((Below.refl w.heap.size w).alloc (Nat.le_refl _) (.cells (deA h) 24))
  go_enter Tryd.func57, Tryd.ntmps57
  go_upto_region 1 with fail
  obtain ⟨b6, hb6⟩ : ∃ b, w.heap.size = b := ⟨_, rfl⟩
  have HB6' := Lib.hid hb6
  rw [hb6] at HR6 HB6 ⊢
  clear hb6
  generalize w.alloc (.cells (deA h) 24) = W6 at *
  have c0 : W6.cell? ⟨b6, 0, none⟩ = some (.int .u64 (h 0 : Int)) := HR6.out.cell 0
  have HS6 := Lib.hid (HS.out.below (show Below w.heap.size w W6 by rw [HB6'.out]; exact HB6.out))
  have HT6 := Lib.hid (HT.out.below HT.out.pos (show Below w.heap.size w W6 by rw [HB6'.out]; exact HB6.out))
  have HBM := Lib.hid (show bs < b6 ∧ bm < b6 by have := HS.out.lt; rw [HB6'.out] at this; exact this)
  by_cases h0 : q = 0
  · simp only [h0, show ((0 : Nat) : Int) = 0 from rfl] at HONE
    have H0 := Lib.hid h0
    clear h0 hq hld
    go_wp2_with (refine (HONE.out _).mono ?_; rintro e w2 ⟨rfl, rfl⟩)
    go_ret
    refine ⟨0, rfl, ?_, by omega, by omega, HS6.out.mono (Nat.le_add_right _ _), But.of_below (by rw [HB6'.out]; exact HB6.out)⟩
    rw [H0.out]
    exact Fs.exact
  · have hd : ((q : Int) == 0) = false := by rw [beq_eq_false_iff_ne]; omega
    have HQ := Lib.hid (show 0 < q by omega)
    clear h0
    have c1 : W6.cell? ⟨b6, 1, none⟩ = some (.int .u64 (h 1 : Int)) := HR6.out.cell 1
    have c2 : W6.cell? ⟨b6, 2, none⟩ = some (.int .u64 (h 2 : Int)) := HR6.out.cell 2
    have c3 : W6.cell? ⟨b6, 3, none⟩ = some (.int .u64 (h 3 : Int)) := HR6.out.cell 3
    have HSH := Lib.hid (dm_shrink h HH.out W6 HT6.out)
    go_wp2_with ((with_reducible refine (HONE.out _).mono ?_); rintro e w2 ⟨rfl, rfl⟩)
    refine HSH.out.mono ?_
    rintro e w2 ⟨rfl, hb2⟩
    have HB2 := Lib.hid (HB6.out.trans (hb2.mono (by have := HR6.out.lt; omega)))
    have HT2 := Lib.hid (HT6.out.below HT6.out.pos hb2)
    have HS2 := Lib.hid (HS6.out.below hb2)
    have HL2 := Lib.hid ((HR6.out.later hb2).lt)
    clear hb2 c0 c1 c2 c3 hd
    have HG := Lib.hid (shr4_ok HH.out HF.out.2.2.2.2.2)
    have HGU := Lib.hid (shr4_uniq HH.out HU.out)
    have HGE := Lib.hid (shr4_evn HH.out HE.out)
    have HGV := Lib.hid (fun n => shr4_val HH.out ld tr n)
    have HGI := Lib.hid (shr4_in HH.out)
    obtain ⟨g, hg⟩ : ∃ x, shr4 h = x := ⟨_, rfl⟩
    rw [hg] at HG HGU HGE HGV HGI ⊢
    clear hg
    simp only [deA]
    go_wp2_with fail
    have HRK := Lib.hid (Row.new w2 103 #[.int .u64 (g 0 : Int), .int .u64 (g 1 : Int), .int .u64 (g 2 : Int), .int .u64 (g 3 : Int), .int .u8 (ld : Int)])
    have ha := (Below.refl w2.heap.size w2).alloc (Nat.le_refl _) (.cells #[.int .u64 (g 0 : Int), .int .u64 (g 1 : Int), .int .u64 (g 2 : Int), .int .u64 (g 3 : Int), .int .u8 (ld : Int)] 103)
    have HB3 := Lib.hid (HB2.out.trans (ha.mono (by have := HL2.out; omega)))
    have HT3 := Lib.hid (HT2.out.below HT2.out.pos ha)
    have HS3 := Lib.hid (HS2.out.below ha)
    clear ha HB2 HT2 HS2 HR6 HB6 HT6 HS6 HSH HONE
    obtain ⟨b12, hb12⟩ : ∃ b, w2.heap.size = b := ⟨_, rfl⟩
    rw [hb12] at HRK HL2 ⊢
    clear hb12
    have HKV : Hid (keyV g ld = .agg #[.int .u64 (g 0 : Int), .int .u64 (g 1 : Int), .int .u64 (g 2 : Int), .int .u64 (g 3 : Int), .int .u8 (ld : Int)]) := Lib.hid rfl
    obtain ⟨KA, hKA⟩ : ∃ A : Array Value, #[.int .u64 (g 0 : Int), .int .u64 (g 1 : Int), .int .u64 (g 2 : Int), .int .u64 (g 3 : Int), .int .u8 (ld : Int)] = A := ⟨_, rfl⟩
    have HKA := Lib.hid hKA
    have HKZ : Hid (KA.size = 5) := Lib.hid (by rw [← hKA]; rfl)
    rw [hKA] at HRK HB3 HT3 HS3 HKV ⊢
    clear hKA
    generalize w2.alloc (.cells KA 103) = W3 at *
    obtain ⟨D, hD, hGood⟩ := HS3.out.map
    obtain ⟨a, b, hat, hlook⟩ := look_bnd hD HGI.out HF.out.2.2.2.2.2
    rw [HKV.out] at hlook
    have HLK := Lib.hid hlook
    have HD := Lib.hid hD
    have HGD := Lib.hid hGood
    have HAT := Lib.hid hat
    clear hD hGood hat hlook
    obtain ⟨ok, hok⟩ : ∃ x, has D (keyL g ld) = x := ⟨_, rfl⟩
    have HOK := Lib.hid hok
    rw [hok] at HLK
    clear hok
    obtain ⟨BV, hBV⟩ : ∃ x, bndV a b = x := ⟨_, rfl⟩
    have HBV := Lib.hid hBV
    rw [hBV] at HLK
    clear hBV
    refine wp_region_reliesS (FA [.pointer (some ⟨bs, 0, none⟩), .pointer (some ⟨bs, 0, none⟩), .pointer (some ⟨bs, 1, none⟩), .map (some bm), .agg KA, .tuple #[BV, .bool ok], .tuple #[BV, .bool ok], BV, .bool ok, undef, undef, .bool ok] 9 10 105 #[.int .i64 0, .int .i64 0] #[.int .i64 a, .int .i64 b] W3.heap.size (fun W => Below W3.heap.size W3 W)) (by kernel_rfl) (by kernel_rfl) (by kernel_rfl) (by kernel_rfl) (FA.start (Below.refl _ _).drew) ?obls ?fini
    case obls =>
      refine ⟨?_, ?_, ?_, ?_, ?_, ?_, ?_, ?_, ?_, ?_, ?_, ?_, trivial⟩
      · rintro ρ f W hF hfi hw hcl hf
        have f0 : ρ (.tmp 0) = .pointer (some ⟨bs, 0, none⟩) := hf.1 0 (by simp [Op.operands])
        exact ok_value (v := .pointer (some ⟨bs, 0, none⟩)) (w' := W) (by simp [execOp, f0]) (hF.pure 0 _ (by decide) (by decide) rfl (fun h => h) (Below.refl _ _))
      · rintro ρ f W hF hfi hw hcl hf
        have f0 : ρ (.tmp 26) = .pointer (some ⟨bs, 0, none⟩) := hF.val 0 _ _ (by decide) (hf.1 26 (by simp [Op.operands])) rfl
        exact ok_value (v := .pointer (some ⟨bs, 0, none⟩)) (w' := W) (by simp [execOp, f0]) (hF.pure 1 _ (by decide) (by decide) rfl (fun h => h) (Below.refl _ _))
      · rintro ρ f W hF hfi hw hcl hf
        have f0 : ρ (.tmp 27) = .pointer (some ⟨bs, 0, none⟩) := hF.val 1 _ _ (by decide) (hf.1 27 (by simp [Op.operands])) rfl
        exact ok_value (v := .pointer (some ⟨bs, 1, none⟩)) (w' := W) (by simp [execOp, f0, go_sem]) (hF.pure 2 _ (by decide) (by decide) rfl (fun h => h) (Below.refl _ _))
      · rintro ρ f W hF hfi hw hcl hf
        have f0 : ρ (.tmp 28) = .pointer (some ⟨bs, 1, none⟩) := hF.val 2 _ _ (by decide) (hf.1 28 (by simp [Op.operands])) rfl
        have ck : W.cell? ⟨bs, 1, none⟩ = some (.map (some bm)) := (HS3.out.row.later hF.st).cell 1
        exact ok_value (v := .map (some bm)) (w' := W) (by simp [execOp, f0, go_sem, ck]) (hF.pure 3 _ (by decide) (by decide) rfl (fun h => h) (Below.refl _ _))
      · rintro ρ f W hF hfi hw hcl hf
        have fp : ρ (.tmp 12) = .pointer (some ⟨b12, 0, none⟩) := hf.1 12 (by simp [Op.operands])
        exact ok_value (exec_load_row 103 (.tmp 12) rfl b12 fp (HRK.out.later hF.st) Tryd.underlying103 rfl (by rw [HKZ.out]; exact size_key)) (hF.pure 4 _ (by decide) (by decide) rfl (fun h => h) (Below.refl _ _))
      · rintro ρ f W hF hfi hw hcl hf
        have f0 : ρ (.tmp 29) = .map (some bm) := hF.val 3 _ _ (by decide) (hf.1 29 (by simp [Op.operands])) rfl
        have f1 : ρ (.tmp 30) = .agg KA := hF.val 4 _ _ (by decide) (hf.1 30 (by simp [Op.operands])) rfl
        have hlk := HLK.out W (owns_same HD.out (hF.st.block _ HD.out.lt))
        exact ok_value (v := .tuple #[BV, .bool ok]) (w' := W) (by simp [execOp, f0, f1, hlk]) (hF.pure 5 _ (by decide) (by decide) rfl (fun h => h) (Below.refl _ _))
      · rintro ρ f W hF hfi hw hcl hf
        have f0 := hF.val 5 _ _ (by decide) (hf.1 31 (by simp [Op.operands])) rfl
        exact ok_value (v := .tuple #[BV, .bool ok]) (w' := W) (by simp [execOp, f0]) (hF.pure 6 _ (by decide) (by decide) rfl (fun h => h) (Below.refl _ _))
      · rintro ρ f W hF hfi hw hcl hf
        have f0 := hF.val 6 _ _ (by decide) (hf.1 25 (by simp [Op.operands])) rfl
        exact ok_value (v := BV) (w' := W) (by simp [execOp, f0, go_sem]) (hF.pure 7 _ (by decide) (by decide) rfl (fun h => h) (Below.refl _ _))
      · rintro ρ f W hF hfi hw hcl hf
        have f0 := hF.val 6 _ _ (by decide) (hf.1 25 (by simp [Op.operands])) rfl
        exact ok_value (v := .bool ok) (w' := W) (by simp [execOp, f0, go_sem]) (hF.pure 8 _ (by decide) (by decide) rfl (fun h => h) (Below.refl _ _))
      · rintro ρ f W hF hfi hw hcl hf
        have hs10 : f 10 = none := by
          rcases h : f 10 with _ | v
          · rfl
          · have := hcl 10 (by rw [h]; rfl) 9 (by decide)
            rw [hfi] at this; cases this
        exact ok_value (exec_alloc 105 rfl (c := #[.int .i64 0, .int .i64 0]) (fun w => by kernel_rfl)) (hF.made W.heap.size hF.st.size (by decide) hs10 (Row.new W _ _) (hF.st.alloc hF.st.size _))
      · rintro ρ f W hF hfi hw hcl hf
        have f0 : ρ (.tmp 32) = .agg #[.int .i64 a, .int .i64 b] := (hF.val 7 _ _ (by decide) (hf.1 32 (by simp [Op.operands])) rfl).trans HBV.out.symm
        obtain ⟨c, hc, h13, hrow⟩ := hF.blk _ (hf.1 13 (by simp [Op.operands]))
        rw [hfi] at hrow
        exact ok_skip (exec_store_row 105 (.tmp 13) (.tmp 32) rfl c #[.int .i64 a, .int .i64 b] h13 f0 hrow size_bnd rfl (by simp [Value.oneCell']))
          (hF.store _ (by decide) rfl ((hf.1 13 (by simp [Op.operands])).trans (congrArg some h13)) (setRow_heap _ _ _ _ _ _ hrow) hc (below_setRow hF.st hc _))
      · rintro ρ f W hF hfi hw hcl hf
        have f0 := hF.val 8 _ _ (by decide) (hf.1 33 (by simp [Op.operands])) rfl
        exact ok_value (v := .bool ok) (w' := W) (by simp [execOp, f0]) (hF.pure 11 _ (by decide) (by decide) rfl (fun h => h) (Below.refl _ _))
    case fini =>
      rintro vs w8 hlen hF
      have hl0 : vs.length = 12 := hlen
      match vs, hl0 with
      | [v0, v1, v2, v3, v4, v5, v6, v7, v8, v9, v10, v11], _ =>
        obtain ⟨b13, hb13, rfl, hrow⟩ := hF.blk v9 rfl
        obtain rfl := hF.val 11 v11 _ (by decide) rfl rfl
        have hst := hF.st
        simp only [putAll, List.zip_cons_cons, List.zip_nil_right, List.foldl_cons, List.foldl_nil]
        simp only [Act.put, List.setIfInBounds_toArray, List.set_cons_succ, List.set_cons_zero]
        have HR13 : Hid (Row w8 b13 105 #[.int .i64 a, .int .i64 b]) := Lib.hid hrow
        have HB8 := Lib.hid hst
        have HL13 := Lib.hid (show W3.heap.size ≤ b13 from hb13)
        clear hrow hst hF hlen hb13
        have HVL := Lib.hid (val_le tr (4 * q) q ⟨g, ld, []⟩ (by simp) HGE.out (by simp))
        obtain ⟨V, hV⟩ : ∃ v, val tr (4 * q) ⟨g, ld, []⟩ = v := ⟨_, rfl⟩
        have HV := Lib.hid hV
        rw [hV] at HVL
        clear hV
        have HPG := Lib.hid (evn_zero HF.out.2.2.2.2.2 HGE.out)
        go_upto_if 35 with fail
        go_cut [14, 34, 35] from 36 (fun _ _ _ w' => ∃ a1 b1 : Int, Row w' b13 105 #[.int .i64 a1, .int .i64 b1] ∧ 0 ≤ a1 ∧ a1 ≤ V ∧ V ≤ b1 ∧ b1 ≤ q ∧ Below W3.heap.size W3 w')
        case first =>
          have hq0 := HQ.out
          cases hok : ok
          · go_wp2_with (refine wpList_store_row rfl 105 (.tmp 13) (.tmp 37) rfl b13 #[.int .i64 0, .int .i64 q] rfl rfl 105 _ HR13.out size_bnd rfl (by simp [Value.oneCell']) ?_)
            go_meet
            case rel => exact ⟨0, q, setRow_heap _ _ _ _ _ _ HR13.out, by omega, by omega, by have := HVL.out; omega, by omega, below_setRow HB8.out HL13.out _⟩
          · obtain ⟨a', b', hab, h1, h2, h3, h4⟩ := HGD.out g ld HGI.out HGU.out HF.out.2.2.2.2.2 (HOK.out.trans hok)
            rw [HAT.out] at hab
            obtain ⟨rfl, rfl⟩ := bndD_inj hab
            rw [HPG.out, HV.out] at h2 h3
            rw [HPG.out] at h4
            have HH := Lib.hid (And.intro h1 (And.intro h2 (And.intro h3 h4)))
            clear h1 h2 h3 h4 hab
            go_wp2_with fail
            go_meet
            case rel => exact ⟨a, b, HR13.out, HH.out.1, HH.out.2.1, HH.out.2.2.1, HH.out.2.2.2, HB8.out⟩
        obtain ⟨a1, b1, hr, h0a, haV, hVb, hbq, hbl⟩ := hcut
        have HR14 := Lib.hid hr
        have HAB := Lib.hid (show 0 ≤ a1 ∧ a1 ≤ V ∧ V ≤ b1 ∧ b1 ≤ q from ⟨h0a, haV, hVb, hbq⟩)
        have HBC := Lib.hid hbl
        have d0 : wc.cell? ⟨b13, 0, none⟩ = some (.int .i64 a1) := hr.cell 0
        have d1 : wc.cell? ⟨b13, 1, none⟩ = some (.int .i64 b1) := hr.cell 1
        have HFA := Lib.hid (HGV.out (4 * q))
        rw [HV.out] at HFA
        have HSC := Lib.hid (HS3.out.below hbl)
        have HRKc := Lib.hid (HRK.out.later hbl)
        have HBX := Lib.hid (show Below w.heap.size w wc from by rw [HB6'.out]; exact HB3.out.trans (hbl.mono (by have := HRK.out.lt; have := HL2.out; omega)))
        clear hr h0a haV hVb hbq hbl
        by_cases e1 : a1 = b1
        · have e1b : ((a1 : Int) == (b1 : Int)) = true := by rw [beq_iff_eq]; exact e1
          have E1 := Lib.hid e1
          clear e1
          go_wp2_with fail
          go_ret
          have hx := HAB.out
          have e1 := E1.out
          refine ⟨a1, rfl, ?_, by omega, by omega, HSC.out.mono (Nat.le_add_right _ _), But.of_below HBX.out⟩
          rw [← HFA.out, show (V : Int) = a1 by omega]
          exact Fs.exact
        · have e1b : ((a1 : Int) == (b1 : Int)) = false := by rw [beq_eq_false_iff_ne]; exact e1
          have E1 := Lib.hid e1
          clear e1
          by_cases e2 : hi ≤ a1
          · have E2 := Lib.hid e2
            go_wp2_with fail
            go_ret
            have hx := HAB.out
            refine ⟨a1, rfl, ?_, by omega, by omega, HSC.out.mono (Nat.le_add_right _ _), But.of_below HBX.out⟩
            rw [← HFA.out]
            exact Fs.low HF.out.1 E2.out (by omega)
          · have e2 : a1 < hi := by omega
            by_cases e3 : b1 ≤ lo
            · have E3 := Lib.hid e3
              go_wp2_with fail
              go_ret
              have hx := HAB.out
              refine ⟨b1, rfl, ?_, by omega, by omega, HSC.out.mono (Nat.le_add_right _ _), But.of_below HBX.out⟩
              rw [← HFA.out]
              exact Fs.high HF.out.1 E3.out (by omega)
            · have e3 : lo < b1 := by omega
              have E23 := Lib.hid (And.intro e2 e3)
              go_wp2_with fail
              obtain ⟨lo1, hlo1⟩ : ∃ x, (if lo < a1 then a1 else lo) = x := ⟨_, rfl⟩
              obtain ⟨hi1, hhi1⟩ : ∃ x, (if b1 < hi then b1 else hi) = x := ⟨_, rfl⟩
              refine wp_region_reliesS (FV [.int .i64 lo, .pointer (some ⟨b13, 0, none⟩), .int .i64 a1, .int .i64 lo1, .int .i64 hi, .pointer (some ⟨b13, 1, none⟩), .int .i64 b1, .int .i64 hi1, .int .i64 lo1, .int .i64 hi1] 100 (fun _ W => Below wc.heap.size wc W)) (by kernel_rfl) (by kernel_rfl) (by kernel_rfl) (by kernel_rfl) (FV.start _ _ (Below.refl _ _).drew) ?obls ?fini
              case obls =>
                refine ⟨?_, ?_, ?_, ?_, ?_, ?_, ?_, ?_, ?_, ?_, trivial⟩
                · rintro ρ f W hF hfi hw hcl hf
                  have f0 : ρ (.tmp 3) = .int .i64 lo := hf.1 3 (by simp [Op.operands])
                  exact ok_value (v := .int .i64 lo) (w' := W) (by simp [execOp, f0]) (hF.pure 0 _ (by decide) rfl (fun _ h => h))
                · rintro ρ f W hF hfi hw hcl hf
                  have f0 : ρ (.tmp 13) = .pointer (some ⟨b13, 0, none⟩) := hf.1 13 (by simp [Op.operands])
                  exact ok_value (v := .pointer (some ⟨b13, 0, none⟩)) (w' := W) (by simp [execOp, f0, go_sem]) (hF.pure 1 _ (by decide) rfl (fun _ h => h))
                · rintro ρ f W hF hfi hw hcl hf
                  have f0 : ρ (.tmp 58) = .pointer (some ⟨b13, 0, none⟩) := hF.val 1 _ _ (hf.1 58 (by simp [Op.operands])) rfl
                  have ck : W.cell? ⟨b13, 0, none⟩ = some (.int .i64 a1) := (HR14.out.later hF.st).cell 0
                  exact ok_value (v := .int .i64 a1) (w' := W) (by simp [execOp, f0, go_sem, ck]) (hF.pure 2 _ (by decide) rfl (fun _ h => h))
                · rintro ρ f W hF hfi hw hcl hf
                  have f0 := hF.val 0 _ _ (hf.1 57 (by simp [Op.operands, Call.operands])) rfl
                  have f1 := hF.val 2 _ _ (hf.1 59 (by simp [Op.operands, Call.operands])) rfl
                  exact ok_value (v := .int .i64 lo1) (w' := W) (by simp [f0, f1, go_sem, hlo1]) (hF.pure 3 _ (by decide) rfl (fun _ h => h))
                · rintro ρ f W hF hfi hw hcl hf
                  have f0 : ρ (.tmp 4) = .int .i64 hi := hf.1 4 (by simp [Op.operands])
                  exact ok_value (v := .int .i64 hi) (w' := W) (by simp [execOp, f0]) (hF.pure 4 _ (by decide) rfl (fun _ h => h))
                · rintro ρ f W hF hfi hw hcl hf
                  have f0 : ρ (.tmp 13) = .pointer (some ⟨b13, 0, none⟩) := hf.1 13 (by simp [Op.operands])
                  exact ok_value (v := .pointer (some ⟨b13, 1, none⟩)) (w' := W) (by simp [execOp, f0, go_sem]) (hF.pure 5 _ (by decide) rfl (fun _ h => h))
                · rintro ρ f W hF hfi hw hcl hf
                  have f0 : ρ (.tmp 62) = .pointer (some ⟨b13, 1, none⟩) := hF.val 5 _ _ (hf.1 62 (by simp [Op.operands])) rfl
                  have ck : W.cell? ⟨b13, 1, none⟩ = some (.int .i64 b1) := (HR14.out.later hF.st).cell 1
                  exact ok_value (v := .int .i64 b1) (w' := W) (by simp [execOp, f0, go_sem, ck]) (hF.pure 6 _ (by decide) rfl (fun _ h => h))
                · rintro ρ f W hF hfi hw hcl hf
                  have f0 := hF.val 4 _ _ (hf.1 61 (by simp [Op.operands, Call.operands])) rfl
                  have f1 := hF.val 6 _ _ (hf.1 63 (by simp [Op.operands, Call.operands])) rfl
                  exact ok_value (v := .int .i64 hi1) (w' := W) (by simp [f0, f1, go_sem, hhi1]) (hF.pure 7 _ (by decide) rfl (fun _ h => h))
                · rintro ρ f W hF hfi hw hcl hf
                  have f0 := hF.val 3 _ _ (hf.1 60 (by simp [Op.operands])) rfl
                  exact ok_value (v := .int .i64 lo1) (w' := W) (by simp [execOp, f0]) (hF.pure 8 _ (by decide) rfl (fun _ h => h))
                · rintro ρ f W hF hfi hw hcl hf
                  have f0 := hF.val 7 _ _ (hf.1 64 (by simp [Op.operands])) rfl
                  exact ok_value (v := .int .i64 hi1) (w' := W) (by simp [execOp, f0]) (hF.pure 9 _ (by decide) rfl (fun _ h => h))
              case fini =>
                rintro vs w9 hlen hF
                have hl0 : vs.length = 10 := hlen
                match vs, hl0 with
                | [x0, x1, x2, x3, x4, x5, x6, x7, x8, x9], _ =>
                  obtain rfl := hF.val 8 x8 _ rfl rfl
                  obtain rfl := hF.val 9 x9 _ rfl rfl
                  have hst := hF.st
                  simp only [putAll, List.zip_cons_cons, List.zip_nil_right, List.foldl_cons, List.foldl_nil]
                  simp only [Act.put, List.setIfInBounds_toArray, List.set_cons_succ, List.set_cons_zero]
                  have HLO : Hid (lo1 = max lo a1) := Lib.hid (by rw [← hlo1]; split <;> omega)
                  have HHI : Hid (hi1 = min hi b1) := Lib.hid (by rw [← hhi1]; split <;> omega)
                  have HS9 := Lib.hid (HSC.out.below hst)
                  have HB9 := Lib.hid (HBX.out.trans (hst.mono (by rw [HB6'.out]; have := HRK.out.lt; have := HL2.out; have := HR14.out.lt; have := HL13.out; omega)))
                  have HT9 := Lib.hid (HT.out.below HT.out.pos HB9.out)
                  have HR9 := Lib.hid (HR14.out.later hst)
                  have HK9 := Lib.hid (HRKc.out.later hst)
                  have hx := HAB.out
                  have hl1 := HLO.out
                  have hh1 := HHI.out
                  have hff := HF.out
                  have h23 := E23.out
                  have he1 := E1.out
                  have hq0 := HQ.out
                  have HWI := Lib.hid (HW.out bs bm n ⟨g, ld, []⟩ q lo1 hi1 w9 HG.out HGU.out HGE.out (by omega) (by simp) (by omega) (by omega) (by omega) (by omega) HS9.out HT9.out HN.out)
                  clear hst hF hlen hlo1 hhi1 d0 d1 hx hl1 hh1 hff h23 he1 hq0 e2 e3 e1b
                  have HRA : Hid (w9.rangeAt b12 0 [.int .u64 (g 0 : Int), .int .u64 (g 1 : Int), .int .u64 (g 2 : Int), .int .u64 (g 3 : Int)]) := Lib.hid (by
                    intro j v hj
                    have hj4 : j < 4 := by simpa using (List.getElem?_eq_some_iff.1 hj).1
                    rw [Nat.zero_add, HK9.out.cell j, ← HKA.out]
                    rcases (show j = 0 ∨ j = 1 ∨ j = 2 ∨ j = 3 by omega) with rfl | rfl | rfl | rfl <;> exact hj)
                  go_wp2_with (refine wpList_load_mid rfl 24 (.tmp 66) rfl b12 0 rfl _ _ HRA.out Tryd.underlying24 rfl size_de ?_)
                  refine HWI.out.mono ?_
                  rintro e w10 ⟨r, rfl, hfr, hr0, hrq, hs10, hb10⟩
                  have hbm := HBM.out
                  have hl2 := HL2.out
                  have hl13 := HL13.out
                  have hlk := HRK.out.lt
                  have hlk9 := HK9.out.lt
                  have hlr9 := HR9.out.lt
                  have HR10 := Lib.hid (hb10.row HR9.out HR9.out.lt (by omega))
                  have HK10 := Lib.hid (hb10.row HK9.out HK9.out.lt (by omega))
                  have HB10 := Lib.hid ((But.of_below (Bm := bm) HB9.out).trans (hb10.mono HB9.out.size))
                  have HS10 := Lib.hid hs10
                  have HFR := Lib.hid (show Fs lo1 hi1 V r ∧ 0 ≤ r ∧ r ≤ q from ⟨by rw [← HV.out]; exact hfr, hr0, hrq⟩)
                  have HLL := Lib.hid (show b12 < w10.heap.size ∧ b13 < w10.heap.size ∧ b6 < b12 ∧ b12 < b13 from ⟨HK10.out.lt, HR10.out.lt, hl2, by omega⟩)
                  clear hfr hr0 hrq hs10 hb10 hbm hl2 hl13 hlk hlk9 hlr9 HWI HRA
                  have k0 := HR10.out.frozen 0
                  have c0 : w10.cell? ⟨b13, 0, none⟩ = some (.int .i64 a1) := HR10.out.cell 0
                  go_upto_if 75 with fail
                  go_cut [75] from 76 (fun _ w' => ∃ a2 : Int, Row w' b13 105 #[.int .i64 a2, .int .i64 b1] ∧ 0 ≤ a2 ∧ a2 ≤ V ∧ But w10.heap.size b13 w10 w')
                  case first =>
                    have hx := HAB.out
                    have hfr := HFR.out
                    by_cases g1 : lo1 < r
                    · have G1 := Lib.hid g1
                      go_wp2_with fail
                      go_meet
                      case rel =>
                        have g1 := G1.out
                        have h4 : r ≤ V := by
                          by_cases g2 : r < hi1
                          · have := hfr.1.2.2 g1 g2; omega
                          · exact hfr.1.2.1 (by omega)
                        exact ⟨r, HR10.out.set 0 _, hfr.2.1, h4, But.setCell _ _ _⟩
                    · go_wp2_with fail
                      go_meet
                      case rel => exact ⟨a1, HR10.out, by omega, by omega, But.refl _ _ _⟩
                  obtain ⟨a2, hr11, ha20, ha2V, hb11⟩ := hcut
                  have HR11 := Lib.hid hr11
                  have HA2 := Lib.hid (And.intro ha20 ha2V)
                  have HB11 := Lib.hid hb11
                  clear hr11 ha20 ha2V hb11 c0 k0
                  have k1 := HR11.out.frozen 1
                  have c1 : wc.cell? ⟨b13, 1, none⟩ = some (.int .i64 b1) := HR11.out.cell 1
                  go_upto_if 80 with fail
                  go_cut [80] from 81 (fun _ w' => ∃ b2 : Int, Row w' b13 105 #[.int .i64 a2, .int .i64 b2] ∧ V ≤ b2 ∧ b2 ≤ q ∧ But w10.heap.size b13 w10 w')
                  case first =>
                    have hx := HAB.out
                    have hfr := HFR.out
                    by_cases g1 : r < hi1
                    · have G1 := Lib.hid g1
                      go_wp2_with fail
                      go_meet
                      case rel =>
                        have g1 := G1.out
                        have h4 : V ≤ r := by
                          by_cases g2 : lo1 < r
                          · have := hfr.1.2.2 g2 g1; omega
                          · exact hfr.1.1 (by omega)
                        exact ⟨r, HR11.out.set 1 _, h4, by omega, HB11.out.trans (But.setCell _ _ _)⟩
                    · go_wp2_with fail
                      go_meet
                      case rel => exact ⟨b1, HR11.out, by omega, by omega, HB11.out⟩
                  clear c1 k1
                  obtain ⟨b2, hr12, hb2V, hb2q, hb12⟩ := hcut
                  have HR12 := Lib.hid hr12
                  have HB2' := Lib.hid (And.intro hb2V hb2q)
                  have hll := HLL.out
                  have hbm := HBM.out
                  have HK12 := Lib.hid (hb12.row HK10.out hll.1 (by omega))
                  have HS12 := Lib.hid (HS10.out.but hb12 (by omega) (by omega) (by omega) (by omega))
                  have HB12 := Lib.hid (show But w.heap.size bm w wc from by
                    rw [HB6'.out]
                    have h1 := HB10.out
                    rw [HB6'.out] at h1
                    exact h1.after hb12 (by omega) (by omega))
                  clear hr12 hb2V hb2q hb12 hll hbm HR11 HB11
                  obtain ⟨D2, hD2, hG2⟩ := HS12.out.map
                  have HD2 := Lib.hid hD2
                  have HG2 := Lib.hid hG2
                  clear hD2 hG2
                  have HL6 := Lib.hid (show w.heap.size ≤ wc.heap.size from HB12.out.size)
                  go_wp2_with fail
                  refine wp_region_reliesS (FV [.pointer (some ⟨bs, 0, none⟩), .pointer (some ⟨bs, 0, none⟩), .pointer (some ⟨bs, 1, none⟩), .map (some bm), .agg KA, .agg #[.int .i64 a2, .int .i64 b2], undef] 6
                    (fun x W => if x then (Slv tr bs bm (n + 5 ^ (4 * q)) W ∧ But w.heap.size bm w W) else Below wc.heap.size wc W)) (by kernel_rfl) (by kernel_rfl) (by kernel_rfl) (by kernel_rfl) (FV.start _ _ (Below.refl _ _).drew) ?obls2 ?fini2
                  case obls2 =>
                    refine ⟨?_, ?_, ?_, ?_, ?_, ?_, ?_, trivial⟩
                    · rintro ρ f W hF hfi hw hcl hf
                      have f0 : ρ (.tmp 0) = .pointer (some ⟨bs, 0, none⟩) := hf.1 0 (by simp [Op.operands])
                      exact ok_value (v := .pointer (some ⟨bs, 0, none⟩)) (w' := W) (by simp [execOp, f0]) (hF.pure 0 _ (by decide) rfl fun _ h => h)
                    · rintro ρ f W hF hfi hw hcl hf
                      have f0 : ρ (.tmp 83) = .pointer (some ⟨bs, 0, none⟩) := hF.val 0 _ _ (hf.1 83 (by simp [Op.operands])) rfl
                      exact ok_value (v := .pointer (some ⟨bs, 0, none⟩)) (w' := W) (by simp [execOp, f0]) (hF.pure 1 _ (by decide) rfl fun _ h => h)
                    · rintro ρ f W hF hfi hw hcl hf
                      have f0 : ρ (.tmp 84) = .pointer (some ⟨bs, 0, none⟩) := hF.val 1 _ _ (hf.1 84 (by simp [Op.operands])) rfl
                      exact ok_value (v := .pointer (some ⟨bs, 1, none⟩)) (w' := W) (by simp [execOp, f0, go_sem]) (hF.pure 2 _ (by decide) rfl fun _ h => h)
                    · rintro ρ f W hF hfi hw hcl hf
                      have h6 : f 6 = none := by
                        rcases h : f 6 with _ | v
                        · rfl
                        · have := hcl 6 (by rw [h]; rfl) 3 (by decide)
                          rw [hfi] at this; cases this
                      have hst := hF.st
                      rw [h6] at hst
                      have hst : Below wc.heap.size wc W := hst
                      have f0 : ρ (.tmp 85) = .pointer (some ⟨bs, 1, none⟩) := hF.val 2 _ _ (hf.1 85 (by simp [Op.operands])) rfl
                      have ck : W.cell? ⟨bs, 1, none⟩ = some (.map (some bm)) := (HS12.out.row.later hst).cell 1
                      exact ok_value (v := .map (some bm)) (w' := W) (by simp [execOp, f0, go_sem, ck]) (hF.pure 3 _ (by decide) rfl fun _ h => h)
                    · rintro ρ f W hF hfi hw hcl hf
                      have h6 : f 6 = none := by
                        rcases h : f 6 with _ | v
                        · rfl
                        · have := hcl 6 (by rw [h]; rfl) 4 (by decide)
                          rw [hfi] at this; cases this
                      have hst := hF.st
                      rw [h6] at hst
                      have hst : Below wc.heap.size wc W := hst
                      have fp : ρ (.tmp 12) = .pointer (some ⟨b12, 0, none⟩) := hf.1 12 (by simp [Op.operands])
                      exact ok_value (exec_load_row 103 (.tmp 12) rfl b12 fp (HK12.out.later hst) Tryd.underlying103 rfl (by rw [HKZ.out]; exact size_key)) (hF.pure 4 _ (by decide) rfl fun _ h => h)
                    · rintro ρ f W hF hfi hw hcl hf
                      have h6 : f 6 = none := by
                        rcases h : f 6 with _ | v
                        · rfl
                        · have := hcl 6 (by rw [h]; rfl) 5 (by decide)
                          rw [hfi] at this; cases this
                      have hst := hF.st
                      rw [h6] at hst
                      have hst : Below wc.heap.size wc W := hst
                      have fp : ρ (.tmp 13) = .pointer (some ⟨b13, 0, none⟩) := hf.1 13 (by simp [Op.operands])
                      exact ok_value (exec_load_row 105 (.tmp 13) rfl b13 fp (HR12.out.later hst) Tryd.underlying105 rfl size_bnd) (hF.pure 5 _ (by decide) rfl fun _ h => h)
                    · rintro ρ f W hF hfi hw hcl hf
                      have hst := hF.st
                      rw [hfi] at hst
                      have hst : Below wc.heap.size wc W := hst
                      have f0 : ρ (.tmp 86) = .map (some bm) := hF.val 3 _ _ (hf.1 86 (by simp [Op.operands])) rfl
                      have f1 : ρ (.tmp 87) = .agg KA := hF.val 4 _ _ (hf.1 87 (by simp [Op.operands])) rfl
                      have f2 : ρ (.tmp 88) = .agg #[.int .i64 a2, .int .i64 b2] := hF.val 5 _ _ (hf.1 88 (by simp [Op.operands])) rfl
                      have hll := HLL.out
                      have hbm := HBM.out
                      have hl6 := HL6.out
                      rw [HB6'.out] at hl6
                      have hD := owns_same HD2.out (hst.block _ HD2.out.lt)
                      have hpw := Nat.pow_pos (n := 4 * q) (show 0 < 5 by decide)
                      have hnn := HN.out
                      have hk := keyOf_key g ld (fun i hi => HGI.out.w64 hi) (by have := HF.out; omega)
                      rw [HKV.out] at hk
                      obtain ⟨w14, hrun, hown, hgr⟩ := hD.update key_keyed Tryd.underlying89 (show n + (5 ^ (4 * q) - 1) < maxLen from Nat.lt_of_le_of_lt (Nat.add_le_add_left (Nat.sub_le _ _) _) hnn) hk (bndR_at a2 b2)
                      have hrun : (Instr.mapUpdate 89 (.map (some bm)) (.agg KA) (.agg #[.int .i64 a2, .int .i64 b2])).run Tryd.prog W = .ok () w14 := hrun
                      have hgood := HG2.out.put hD.isMap HGI.out HGU.out HF.out.2.2.2.2.2 HA2.out.1 (by rw [HPG.out, HV.out]; exact HA2.out.2) (by rw [HPG.out, HV.out]; exact HB2'.out.1) (by rw [HPG.out]; exact HB2'.out.2)
                      have hbu : But wc.heap.size bm wc w14 := (But.of_below hst).trans ⟨hgr.os, hgr.tape, hgr.output, hgr.size, fun k hk hn => hgr.block k (Nat.lt_of_lt_of_le hk hst.size) (by intro e; exact hn (by simpa using e))⟩
                      refine ok_skip (w' := w14) (by simp [execOp, f0, f1, f2, hrun]) (hF.write _ rfl hfi fun _ => ⟨⟨hbu.row HS12.out.row (by omega) ?_, _, ?_, hgood⟩, HB12.out.trans (hbu.mono HL6.out)⟩)
                      · intro e
                        have h1 := HS12.out.row
                        have h2 := HD2.out
                        obtain ⟨es, cl, h2, -⟩ := h2
                        have h1 : wc.heap[bs]? = _ := h1
                        rw [e, h2] at h1
                        cases h1
                      · rw [show n + 5 ^ (4 * q) = n + (5 ^ (4 * q) - 1) + 1 by omega]
                        exact hown
                  case fini2 =>
                    rintro vs w13 hlen hF
                    have hl0 : vs.length = 7 := hlen
                    match vs, hl0 with
                    | [y0, y1, y2, y3, y4, y5, y6], _ =>
                      have hst := hF.st
                      simp only [putAll, List.zip_cons_cons, List.zip_nil_right, List.foldl_cons, List.foldl_nil]
                      simp only [Act.put, List.setIfInBounds_toArray, List.set_cons_succ, List.set_cons_zero]
                      have HST := Lib.hid (show Slv tr bs bm (n + 5 ^ (4 * q)) w13 ∧ But w.heap.size bm w w13 from hst)
                      clear hst hF hlen
                      go_wp2_with fail
                      go_ret
                      have hf := HFR.out
                      have hx := HAB.out
                      refine ⟨r, rfl, ?_, hf.2.1, hf.2.2, HST.out.1, HST.out.2⟩
                      rw [← HFA.out]
                      have h1 := hf.1
                      rw [HLO.out, HHI.out] at h1
                      exact h1.narrow (by omega) (by omega)
end Go.Proofs.YtpobcaopfeddgaaDoor
