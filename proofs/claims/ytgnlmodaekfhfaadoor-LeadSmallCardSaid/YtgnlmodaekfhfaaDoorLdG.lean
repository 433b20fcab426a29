/- The contract of Legal, over this seat's program. -/
import Derived.Test.YtgnlmodaekfhfaaDoorLdF
import Derived.Test.YtgnlmodaekfhfaaDoorPlayable
import Derived.Test.YtgnlmodaekfhfaaDoorLdW
import Derived.Deep.Cut
namespace Go.Proofs.YtgnlmodaekfhfaaDoor
open Go.RowKit Go.Shelf Go.Sort

theorem quiet_row {P : Program} {ops : Array Oper} {C : World → Prop} {Q : Act → Prop} {a : Act} {o : Oper} {rest : List Oper} (hgd : o.guard = none) (ty : TypeId) (x : Operand) (ho : o.op = .load ty x) (g : Nat) (hx : a.eval x = .pointer (some ⟨g, 0, none⟩)) {t : TypeId} {cs : Array Value} {d : TypeDesc}
    (hg : ∀ w', C w' → Row w' g t cs) (hu : P.underlying ty = some d) (hd : (match d with | .struct _ | .array _ _ => true | _ => false) = true) (hi : (P.info? ty).map (·.size) = some cs.size) (h : wpQuiet P ops C Q rest (a.put o.dst (.agg cs))) : wpQuiet P ops C Q (o :: rest) a := by
  refine BigFrame.wpQuiet_want (by simp [Region.wanted, hgd]) fun K hK => ⟨.agg cs, fun w hw => ?_, hK _ h⟩
  unfold Oper.quietAt
  rw [exec_load_row ty x ho g hx (hg w hw) hu hd hi]
  exact ⟨rfl, rfl⟩
theorem slice_run14 (b k : Nat) (hk : k ≤ 4) (wx : World) : (Instr.sliceAt 42 (.pointer (some ⟨b, 12, none⟩)) none (some (.int .u8 (k : Int))) none).run Tryd.prog wx = .ok (.slice (some ⟨b, 12, none⟩) k 4) wx := by
  have hl : Tryd.prog.arrayLen 42 = 4 := by kernel_rfl
  have hsz : (sizeOf (Tryd.prog.elem 42)).run Tryd.prog wx = .ok 1 wx := by kernel_rfl
  rw [run_sliceAt_array_h wx 42 ⟨b, 12, none⟩ (by kernel_rfl) .u8 (k : Int) (by omega) (by rw [hl]; omega), hsz, hl]
  simp [Result.andThen, slicedAt, Addr.add]
theorem trick_byt_row {w : World} {B : Nat} {t : TypeId} {s : St} (h : Row w B t s.cells) (hs : ∀ j, j < 4 → s.cs j < 256) {n : Nat} (hn : n ≤ 4) : Byt w (some ⟨B, 12, none⟩) n ((List.range n).map s.cs) := by
  refine ⟨by simp, by omega, fun i => ?_, .inr ⟨B, 12, rfl, h.lt, fun i hi => ?_⟩⟩
  · rw [List.getD_eq_getElem?_getD, List.getElem?_map]
    by_cases hi : i < n
    · rw [List.getElem?_range hi]; exact hs i (by omega)
    · rw [List.getElem?_eq_none (by simpa using hi)]; show 0 < 256; omega
  · rw [h.cell, List.getD_eq_getElem?_getD, List.getElem?_map, List.getElem?_range hi]
    rcases (show i = 0 ∨ i = 1 ∨ i = 2 ∨ i = 3 by omega) with rfl | rfl | rfl | rfl <;> rfl
set_option maxHeartbeats 1000000 in
set_option maxRecDepth 10000 in
theorem ld_Legal {w : World} {B : Nat} {s : St} (hs : s.ok) (hm : s.md) (h : TblAt w B s) (hT : Tab w) :
    Calls Tryd.prog 18 #[.pointer (some ⟨B, 0, none⟩)] w fun e w' => e = .returned (.int .u64 (s.legal : Int)) ∧ Below w.heap.size w w' := by
  have HM := Lib.hid (ld_madeT hm h)
  have c18 := h.cell 18
  simp only [List.getElem?_toArray, List.getElem?_cons_zero, List.getElem?_cons_succ] at c18
  cases hp : s.pend
  · rw [hp] at c18
    have HTU := Lib.hid (fun (w1 : World) (hb : Below w.heap.size w w1) => ld_turn hs (h.below h.lt hb))
    obtain ⟨SA, hSA⟩ : ∃ SA, SA = s.cells := ⟨_, rfl⟩
    have hs24 : SA.size = 24 := by rw [hSA]; rfl
    have hone : Hid (SA.all (·.oneCell') = true) := Lib.hid (by rw [hSA]; simp [Value.oneCell'])
    have HR0 : Hid (Row w B 62 SA) := Lib.hid (by rw [hSA]; exact h)
    have HZ : Hid ((Tryd.prog.info? 45).map (·.size) = some SA.size) := Lib.hid (by rw [hs24]; exact size_st)
    have HS24 := Lib.hid hs24
    have HSA := Lib.hid hSA
    clear hs24 hSA
    go_enter Tryd.func18, Tryd.ntmps18
    go_upto_region 3 with (go_at_call 29; refine HM.out.mono ?_; rintro e w' ⟨rfl, rfl⟩)
    obtain ⟨tn, htn⟩ : ∃ x, x = s.turn := ⟨_, rfl⟩
    have HTN := Lib.hid htn
    rw [← htn] at HTU
    clear htn
    refine wp_region_reliesS (FA [.pointer (some ⟨B, 0, none⟩), .pointer (some ⟨B, 0, none⟩), .pointer (some ⟨B, 0, none⟩), .agg SA, .pointer (some ⟨B, 0, none⟩), .int .u8 (tn : Int), undef, undef, .int .u8 (tn : Int)] 6 7 45 zst SA w.heap.size (fun W => Below w.heap.size w W)) (by kernel_rfl) (by kernel_rfl) (by kernel_rfl) (by kernel_rfl) (FA.start (Below.refl _ _).drew) ?obls ?fini
    case obls =>
      refine ⟨?_, ?_, ?_, ?_, ?_, ?_, ?_, ?_, ?_, trivial⟩
      · rintro ρ f W hF hfi hw hcl hf
        have f0 : ρ (.tmp 0) = .pointer (some ⟨B, 0, none⟩) := hf.1 0 (by simp [Op.operands])
        exact ok_value (v := .pointer (some ⟨B, 0, none⟩)) (w' := W) (by simp [execOp, f0]) (hF.pure 0 _ (by decide) (by decide) rfl (fun h => h) (Below.refl _ _))
      · rintro ρ f W hF hfi hw hcl hf
        have f17 : ρ (.tmp 17) = .pointer (some ⟨B, 0, none⟩) := hF.val 0 _ _ (by decide) (hf.1 17 (by simp [Op.operands])) rfl
        exact ok_value (v := .pointer (some ⟨B, 0, none⟩)) (w' := W) (by simp [execOp, f17]) (hF.pure 1 _ (by decide) (by decide) rfl (fun h => h) (Below.refl _ _))
      · rintro ρ f W hF hfi hw hcl hf
        have f18 : ρ (.tmp 18) = .pointer (some ⟨B, 0, none⟩) := hF.val 1 _ _ (by decide) (hf.1 18 (by simp [Op.operands])) rfl
        exact ok_value (v := .pointer (some ⟨B, 0, none⟩)) (w' := W) (by simp [execOp, f18, go_sem]) (hF.pure 2 _ (by decide) (by decide) rfl (fun h => h) (Below.refl _ _))
      · rintro ρ f W hF hfi hw hcl hf
        have f19 : ρ (.tmp 19) = .pointer (some ⟨B, 0, none⟩) := hF.val 2 _ _ (by decide) (hf.1 19 (by simp [Op.operands])) rfl
        exact ok_value (exec_load_row 45 (.tmp 19) rfl B f19 (HR0.out.later hF.st) Tryd.underlying45 rfl HZ.out) (hF.pure 3 _ (by decide) (by decide) rfl (fun h => h) (Below.refl _ _))
      · rintro ρ f W hF hfi hw hcl hf
        have f0 : ρ (.tmp 0) = .pointer (some ⟨B, 0, none⟩) := hf.1 0 (by simp [Op.operands])
        exact ok_value (v := .pointer (some ⟨B, 0, none⟩)) (w' := W) (by simp [execOp, f0]) (hF.pure 4 _ (by decide) (by decide) rfl (fun h => h) (Below.refl _ _))
      · rintro ρ f W hF hfi hw hcl hf
        have f21 : ρ (.tmp 21) = .pointer (some ⟨B, 0, none⟩) := hF.val 4 _ _ (by decide) (hf.1 21 (by simp [Op.operands, Call.operands])) rfl
        refine ok_call (f := 30) (args := #[.pointer (some ⟨B, 0, none⟩)]) (by simp [execOp, f21, hf.2.2.2, go_sem]) ((HTU.out W hF.st).mono ?_)
        rintro e w5 ⟨rfl, hb5⟩
        exact ⟨_, rfl, hF.pure 5 _ (by decide) (by decide) rfl (fun h => h.trans (hb5.mono h.size)) hb5⟩
      · rintro ρ f W hF hfi hw hcl hf
        have hs11 : f 7 = none := by
          rcases h : f 7 with _ | v
          · rfl
          · have := hcl 7 (by rw [h]; rfl) 6 (by decide)
            rw [hfi] at this; cases this
        exact ok_value (exec_alloc 45 rfl (c := zst) (fun w => by kernel_rfl)) (hF.made W.heap.size hF.st.size (by decide) hs11 (Row.new W 45 zst) (hF.st.alloc hF.st.size _))
      · rintro ρ f W hF hfi hw hcl hf
        have f20 : ρ (.tmp 20) = .agg SA := hF.val 3 _ _ (by decide) (hf.1 20 (by simp [Op.operands])) rfl
        obtain ⟨b, hbB, h11, hrow⟩ := hF.blk _ (hf.1 3 (by simp [Op.operands]))
        rw [hfi] at hrow
        exact ok_skip (exec_store_row 45 (.tmp 3) (.tmp 20) rfl b SA h11 f20 hrow HZ.out (by rw [HS24.out]; rfl) hone.out)
          (hF.store _ (by decide) rfl ((hf.1 3 (by simp [Op.operands])).trans (congrArg some h11)) (setRow_heap _ _ _ _ _ _ hrow) hbB (below_setRow hF.st hbB _))
      · rintro ρ f W hF hfi hw hcl hf
        have f22 := hF.val 5 _ _ (by decide) (hf.1 22 (by simp [Op.operands])) rfl
        exact ok_value (v := .int .u8 (tn : Int)) (w' := W) (by simp [execOp, f22]) (hF.pure 8 _ (by decide) (by decide) rfl (fun h => h) (Below.refl _ _))
    case fini =>
      rintro vs w2 hlen hF
      have hl0 : vs.length = 9 := hlen
      match vs, hl0 with
      | [v0, v1, v2, v3, v4, v5, v6, v7, v8], _ =>
        obtain ⟨b, hbB, rfl, hrow⟩ := hF.blk v6 rfl
        obtain rfl := hF.val 8 v8 _ (by decide) rfl rfl
        have hst := hF.st
        simp only [putAll, List.zip_cons_cons, List.zip_nil_right, List.foldl_cons, List.foldl_nil]
        simp only [Act.put, List.setIfInBounds_toArray, List.set_cons_succ, List.set_cons_zero]
        have HR2 : Hid (Row w2 b 45 SA) := Lib.hid hrow
        have HB2 := Lib.hid hst
        clear hF hrow hst hlen hl0 HTU
        have c11 : w2.cell? ⟨b, 11, none⟩ = some (.int .u8 (s.ct : Int)) := by rw [HR2.out.cell, HSA.out]; rfl
        have rc11 := fun dd os => cell_regrown c11 dd os
        have ht4 : tn < 4 := by rw [HTN.out]; exact s.turn_lt
        have ht4I : (tn : Int) < 4 := by omega
        obtain ⟨m, hme, hmw⟩ : ∃ m, m = s.h tn ∧ W64 m := ⟨_, rfl, w64_52 (hs.h _ ht4)⟩
        obtain ⟨p, hpe, hpw⟩ : ∃ m, m = s.pn tn ∧ W64 m := ⟨_, rfl, w64_52 (hs.pn _ ht4)⟩
        have cm : w2.cell? ⟨b, tn, none⟩ = some (.int .u64 (m : Int)) := by
          rw [HR2.out.cell, HSA.out, hme]
          rcases (show tn = 0 ∨ tn = 1 ∨ tn = 2 ∨ tn = 3 by omega) with h | h | h | h <;> rw [h] <;> rfl
        have cp : w2.cell? ⟨b, 4 + tn, none⟩ = some (.int .u64 (p : Int)) := by
          rw [HR2.out.cell, HSA.out, hpe]
          rcases (show tn = 0 ∨ tn = 1 ∨ tn = 2 ∨ tn = 3 by omega) with h | h | h | h <;> rw [h] <;> rfl
        have rcm := fun dd os => cell_regrown cm dd os
        have HPE := Lib.hid hpe
        have HME := Lib.hid hme
        clear hpe hme
        have hb2 := HR2.out.lt
        obtain ⟨l, hl, hlw⟩ : ∃ l, l = s.can ∧ W64 l := by
          refine ⟨_, rfl, ?_⟩
          unfold St.can
          split
          · exact w64_52 (leadsV_lt (hs.h _ s.turn_lt))
          · exact playableV_w64 _ _ (w64_52 (hs.h _ s.turn_lt))
        have HL := Lib.hid hl
        have hleg : s.legal = pick l p := by unfold St.legal; rw [hp, hl, HPE.out, HTN.out]; rfl
        have HLEG := Lib.hid hleg
        clear hl hleg
        by_cases h0 : s.ct = 0
        · have hz : ((s.ct : Int) == 0) = true := by rw [h0]; rfl
          go_upto_region 6 with fail
          have c20 : w2.cell? ⟨b, 20, none⟩ = some (.int .u8 (s.must : Int)) := by rw [HR2.out.cell, HSA.out]; rfl
          have c21 : w2.cell? ⟨b, 21, none⟩ = some (.int .u8 (s.nt : Int)) := by rw [HR2.out.cell, HSA.out]; rfl
          have rc20 := fun dd os => cell_regrown c20 dd os
          have rc21 := fun dd os => cell_regrown c21 dd os
          have HLD : Hid (∀ W, Calls Tryd.prog 33 #[.int .u64 (m : Int), .int .u8 (s.must : Int), .int .u8 (s.nt : Int)] W fun e w' => e = .returned (.int .u64 (l : Int)) ∧ Below W.heap.size W w') := Lib.hid (fun W => (ld_leads m s.must s.nt hmw (Nat.lt_trans hs.must (by decide)) (Nat.lt_trans hs.nt (by decide)) W).mono (by rintro e w' ⟨rfl, rfl⟩; exact ⟨by rw [HL.out, HME.out, HTN.out]; unfold St.can; rw [if_pos h0], Below.refl _ _⟩))
          refine wp_region_quiet_below (by kernel_rfl) (by kernel_rfl) ?_
          repeat (first | go_big_quiet_step (fail) | quiet_step (with_reducible exact Calls.regrown_of (HLD.out _)))
          clear c20 c21 rc20 rc21 hz
          refine wpQuiet_nil ?_
          rintro _ ⟨q, rfl⟩
          have hb3 := below_regrown w2 q.d q.os
          have cp3 := (HR2.out.below hb2 hb3).cell (4 + tn)
          rw [← HR2.out.cell, cp] at cp3
          generalize grow (redrawn w2 q.d) q.os = w3 at *
          have HB3 := Lib.hid (HB2.out.trans (hb3.mono HB2.out.size))
          clear cp cm rcm c11 rc11 hb3
          have t1 := ne_zero_cast (land l p)
          by_cases hlp : land l p ≠ 0
          · have hpk : pick l p = land l p := by unfold pick; rw [if_pos hlp]
            rw [(bne_iff_ne (a := land l p) (b := 0)).2 hlp] at t1
            clear hlp
            go_wp2_with fail
            go_ret
            exact ⟨by rw [HLEG.out, hpk]; rfl, HB3.out⟩
          · have hpk : pick l p = l := by unfold pick; rw [if_neg hlp]
            have h1' : (land l p != 0) = false := by simpa using hlp
            rw [h1'] at t1
            clear hlp h1'
            go_wp2_with fail
            go_ret
            exact ⟨by rw [HLEG.out, hpk]; rfl, HB3.out⟩
        · have hz : ((s.ct : Int) == 0) = false := by rw [beq_eq_false_iff_ne]; omega
          go_upto_region 7 with fail
          have hsl := slice_run14 b s.ct (by have := hs.ct; omega)
          have hby : Byt w2 (some ⟨b, 12, none⟩) s.ct s.trick := by
            have hw : Row w2 b 45 s.cells := by have := HR2.out; rw [HSA.out] at this; exact this
            exact trick_byt_row hw (fun j hj => Nat.lt_trans (hs.cs j hj) (by decide)) (by have := hs.ct; omega)
          have HPL := Lib.hid (fun (w1 : World) (hb : Below w2.heap.size w2 w1) => trick_Playable m (some ⟨b, 12, none⟩) s.ct 4 s.trick w1 (hby.below (Nat.le_refl _) hb) hmw ((hT.below hT.pos HB2.out).below (Nat.lt_of_lt_of_le hT.pos HB2.out.size) hb))
          obtain ⟨pv, hpv⟩ : ∃ x, x = playableV m s.trick := ⟨_, rfl⟩
          have hlp1 : l = pv.1 := by rw [HL.out, hpv, HME.out, HTN.out]; unfold St.can; rw [if_neg h0]
          rw [← hpv] at HPL
          rw [hlp1] at hlw
          have HLP1 := Lib.hid hlp1
          clear hpv hlp1 hby
          refine wp_region_quiet_below (by kernel_rfl) (by kernel_rfl) ?_
          repeat (first | go_big_quiet_step (fail) | quiet_step (with_reducible exact Calls.regrown_of (HPL.out _ (below_regrown _ _ _))))
          clear hsl hz
          refine wpQuiet_nil ?_
          rintro _ ⟨q, rfl⟩
          have hb3 := below_regrown w2 q.d q.os
          have cp3 := (HR2.out.below hb2 hb3).cell (4 + tn)
          rw [← HR2.out.cell, cp] at cp3
          generalize grow (redrawn w2 q.d) q.os = w3 at *
          have HB3 := Lib.hid (HB2.out.trans (hb3.mono HB2.out.size))
          clear cp cm rcm c11 rc11 hb3
          have t1 := ne_zero_cast (land pv.1 p)
          by_cases hlp : land pv.1 p ≠ 0
          · have hpk : pick l p = land pv.1 p := by rw [HLP1.out]; unfold pick; rw [if_pos hlp]
            rw [(bne_iff_ne (a := land pv.1 p) (b := 0)).2 hlp] at t1
            clear hlp
            go_wp2_with fail
            go_ret
            exact ⟨by rw [HLEG.out, hpk]; rfl, HB3.out⟩
          · have hpk : pick l p = pv.1 := by rw [HLP1.out]; unfold pick; rw [if_neg hlp]
            have h1' : (land pv.1 p != 0) = false := by simpa using hlp
            rw [h1'] at t1
            clear hlp h1'
            go_wp2_with fail
            go_ret
            exact ⟨by rw [HLEG.out, hpk]; rfl, HB3.out⟩
  · rw [hp] at c18
    unfold St.legal
    rw [hp]
    go_enter Tryd.func18, Tryd.ntmps18
    go_wp2_with (go_at_call 29; refine HM.out.mono ?_; rintro e w' ⟨rfl, rfl⟩)
    go_ret
    exact ⟨rfl, Below.refl _ _⟩
end Go.Proofs.YtgnlmodaekfhfaaDoor
