/- The closure of claim.least over this seat's program: within a trick, and with no card left. -/
import Derived.Test.YtnbillhodbcfbaaDoorMCli
import Derived.Test.YtnbillhodbcfbaaDoorChn
import Derived.Test.YtnbillhodbcfbaaDoorMRel
import Derived.Test.YtnbillhodbcfbaaDoorDmPj
namespace Go.Proofs.YtnbillhodbcfbaaDoor
open Go.RowKit Go.Sort Go.Shelf Go.Maps Go.WideMaps

theorem quiet_rowC {P : Program} {ops : Array Oper} {C : World → Prop} {Q : Act → Prop} {a : Act} {o : Oper} {rest : List Oper} (hw : Region.wanted o (yielded ops a.tmps) = true) (ty : TypeId) (x : Operand) (ho : o.op = .load ty x) (g : Nat) (hx : a.eval x = .pointer (some ⟨g, 0, none⟩)) {t : TypeId} {cs : Array Value} {d : TypeDesc}
    (hg : ∀ w', C w' → Row w' g t cs) (hu : P.underlying ty = some d) (hd : (match d with | .struct _ | .array _ _ => true | _ => false) = true) (hi : (P.info? ty).map (·.size) = some cs.size) (h : wpQuiet P ops C Q rest (a.put o.dst (.agg cs))) : wpQuiet P ops C Q (o :: rest) a := by
  refine BigFrame.wpQuiet_want hw fun K hK => ⟨.agg cs, fun w hw => ?_, hK _ h⟩
  unfold Oper.quietAt
  rw [exec_load_row ty x ho g hx (hg w hw) hu hd hi]
  exact ⟨rfl, rfl⟩
theorem cl_follow0 {P : Prm} {x : Nat} (hP : P.ok x) : FOk P x 0 := by
  intro n t q W hg hm hq hE hn
  have HP := Lib.hid hP
  have HE0 := Lib.hid hE
  have HGT := Lib.hid hg
  have hc0 : canM t = 0 := by
    have := can_len hg.ok hg.ev
    have hl := hg.ok.pk.2
    rcases Nat.eq_zero_or_pos (canM t) with h | h
    · exact h
    · obtain ⟨hk, hcons⟩ := bitsList_cons (canM t) (by omega) (canM_w64 hg.ok)
      rw [hcons] at this
      simp at this
      omega
  clear hP hE hg hm hq
  have HCA := Lib.hid (fun W' => cl_can t HGT.out.ok W')
  obtain ⟨TA, hTA⟩ : ∃ A, tbA t = A := ⟨_, rfl⟩
  have HTA := Lib.hid hTA
  have HAZ : Hid ((Tryd.prog.info? 87).map (·.size) = some TA.size) := Lib.hid (by rw [← hTA]; exact size_ct)
  rw [hTA] at HCA ⊢
  clear hTA
  have hY0 := Row.new W 87 TA
  have hB0 := (Below.refl W.heap.size W).alloc (Nat.le_refl _) (.cells TA 87)
  have hE0 := HE0.out.later HP.out hB0
  have hyx : x + 6 < W.heap.size := HE0.out.mlt
  rw [hc0] at HCA
  show Calls Tryd.prog 70 #[.agg TA, .pointer (some ⟨x + 3, 0, none⟩), .pointer (some ⟨x + 5, 0, none⟩), .pointer (some ⟨x + 1, 0, none⟩), .pointer (some ⟨x + 2, 0, none⟩), .pointer (some ⟨x, 0, none⟩), .pointer (some ⟨x + 6, 0, none⟩)] W _
  go_enter Tryd.func70, Tryd.ntmps70
  go_upto_region 1 with fail
  generalize W.alloc (.cells TA 87) = w1 at *
  obtain ⟨y, hy⟩ : ∃ b, W.heap.size = b := ⟨_, rfl⟩
  have HYW := Lib.hid hy
  rw [hy] at hY0 hB0 hyx ⊢
  clear hy
  go_wp2_with (refine wpList_load_row rfl 87 (.tmp 7) rfl y rfl 87 TA (0, 0) _ hY0 Tryd.underlying87 rfl HAZ.out ?_)
  refine (HCA.out w1).mono ?_
  rintro e w2 ⟨rfl, hb2⟩
  have HE := Lib.hid (hE0.later HP.out hb2)
  have HY := Lib.hid (hY0.later hb2)
  have HBt : Hid (But y (x + 4) W w2) := Lib.hid (But.of_below (hB0.trans (hb2.mono (Nat.le_of_lt hY0.lt))))
  clear hb2 hE0 hY0 hB0
  go_wp2_with fail
  go_ret
  exact ⟨rfl, HE.out.mono (Nat.le_add_right _ _), by rw [HYW.out]; exact HBt.out⟩
set_option maxHeartbeats 4000000 in
set_option maxRecDepth 10000 in
theorem cl_followB {P : Prm} {x m : Nat} (hP : P.ok x) (hI : FOk P x m) : ∀ (n : Nat) (u : Tb) (q : Nat) (W : World), u.cs.length ≠ 0 → TbG q u → m + 1 + u.cs.length = 4 * q → q ≤ 4 → Env P x n W → n + 5 ^ (m + 1) < maxLen →
    Calls Tryd.prog 70 (#[.agg (tbA u)] ++ capL x) W fun e w' => e = .returned (.int .i64 ((P.mn (m + 1) u : Nat) : Int)) ∧ Env P x (n + 5 ^ (m + 1)) w' ∧ But W.heap.size (x + 4) W w' := by
  intro n u q W hul hg hm hq hE hn
  have HP := Lib.hid hP
  have HI := Lib.hid hI
  have HE0 := Lib.hid hE
  have HGT := Lib.hid hg
  have HG := Lib.hid hg
  have HM1 := Lib.hid hm
  have HQ := Lib.hid hq
  have HN := Lib.hid hn
  have HUL := Lib.hid hul
  have hc0 : canM u ≠ 0 := hg.can (by have := hg.ok.pk.2; omega)
  have HC0 := Lib.hid hc0
  clear hP hI hE hg hm hq hn hul
  have HCA := Lib.hid (fun W' => cl_can u HGT.out.ok W')
  obtain ⟨TA, hTA⟩ : ∃ A, tbA u = A := ⟨_, rfl⟩
  have HTA := Lib.hid hTA
  have HAZ : Hid ((Tryd.prog.info? 87).map (·.size) = some TA.size) := Lib.hid (by rw [← hTA]; exact size_ct)
  rw [hTA] at HCA ⊢
  clear hTA
  have hY0 := Row.new W 87 TA
  have hB0 := (Below.refl W.heap.size W).alloc (Nat.le_refl _) (.cells TA 87)
  have hE0 := HE0.out.later HP.out hB0
  have hyx : x + 6 < W.heap.size := HE0.out.mlt
  show Calls Tryd.prog 70 #[.agg TA, .pointer (some ⟨x + 3, 0, none⟩), .pointer (some ⟨x + 5, 0, none⟩), .pointer (some ⟨x + 1, 0, none⟩), .pointer (some ⟨x + 2, 0, none⟩), .pointer (some ⟨x, 0, none⟩), .pointer (some ⟨x + 6, 0, none⟩)] W _
  go_enter Tryd.func70, Tryd.ntmps70
  go_upto_region 1 with fail
  generalize W.alloc (.cells TA 87) = w1 at *
  obtain ⟨y, hy⟩ : ∃ b, W.heap.size = b := ⟨_, rfl⟩
  have HYW := Lib.hid hy
  rw [hy] at hY0 hB0 hyx ⊢
  clear hy
  go_wp2_with (refine wpList_load_row rfl 87 (.tmp 7) rfl y rfl 87 TA (0, 0) _ hY0 Tryd.underlying87 rfl HAZ.out ?_)
  refine (HCA.out w1).mono ?_
  rintro e w2 ⟨rfl, hb2⟩
  have HE := Lib.hid (hE0.later HP.out hb2)
  have HY := Lib.hid (hY0.later hb2)
  have HBt : Hid (But y (x + 4) W w2) := Lib.hid (But.of_below (hB0.trans (hb2.mono (Nat.le_of_lt hY0.lt))))
  clear hb2 hE0 hY0 hB0
  have HTU := HTA
  have HUZ := HAZ
  have hcd : (((canM u : Nat) : Int) == 0) = false := by rw [beq_eq_false_iff_ne]; omega
  obtain ⟨cm, hcm⟩ : ∃ z, canM u = z := ⟨_, rfl⟩
  rw [hcm] at hcd ⊢
  clear hcm hc0
  go_upto_region 4 with fail
  have HYX : Hid (y ≠ x + 4 ∧ True) := Lib.hid ⟨by omega, trivial⟩
  have hlt2 := HY.out.lt
  have hb3 := (Below.refl w2.heap.size w2).alloc (Nat.le_refl _) (.cells #[.int .u64 0, .int .u64 0, .int .u64 0, .int .u64 0, .int .u8 0] 117)
  have HE := Lib.hid (HE.out.later HP.out hb3)
  have HY := Lib.hid (HY.out.later hb3)
  have HBt := Lib.hid (HBt.out.trans (But.of_below (hb3.mono (Nat.le_of_lt hlt2))))
  clear hb3 hlt2 hcd
  generalize w2.alloc (.cells #[.int .u64 0, .int .u64 0, .int .u64 0, .int .u64 0, .int .u8 0] 117) = wa at *
  have HU5 : Hid (TA[5]? = some (.int .u8 (u.cs.length : Int))) := Lib.hid (by rw [← HTA.out]; rfl)
  obtain ⟨ul, hull⟩ : ∃ z, u.cs.length = z := ⟨_, rfl⟩
  rw [hull] at HU5 HUL
  clear hull
  have hc5 : wa.cell? ⟨y, 5, none⟩ = some (.int .u8 (ul : Int)) := (HY.out.cell 5).trans HU5.out
  have hul : ((ul : Int) == 0) = false := by rw [beq_eq_false_iff_ne]; have := HUL.out; omega
  obtain ⟨TU, hTUU⟩ : ∃ A, TA = A := ⟨_, rfl⟩
  rw [hTUU] at HTU HUZ HY HU5 ⊢
  clear hTUU
  go_upto_region 10 with fail
  clear hc5 hul
  have HDI := Lib.hid (fun W' (hT : Tab W') => cl_distinct u HG.out.ok W' hT)
  have HTR := Lib.hid (fun W' => cl_turn u HG.out.ok W')
  rw [HTU.out] at HDI HTR
  have hy0 := HY.out
  go_upto_region 10 with fail
  go_wp2_with (refine wpList_load_row rfl 87 (.tmp 7) rfl y rfl 87 TU (0, 0) _ hy0 Tryd.underlying87 rfl HUZ.out ?_)
  refine (HDI.out _ HE.out.tab).mono ?_
  rintro e wb ⟨rfl, hbb⟩
  have HYS : Hid (y ≤ wb.heap.size) := Lib.hid (Nat.le_trans (Nat.le_of_lt HY.out.lt) hbb.size)
  have HBt := Lib.hid (HBt.out.trans (But.of_below (hbb.mono (Nat.le_of_lt HY.out.lt))))
  have HE := Lib.hid (HE.out.later HP.out hbb)
  have HY := Lib.hid (HY.out.later hbb)
  clear hbb hy0
  have hul4 := u.turn_lt
  obtain ⟨ut, hut⟩ : ∃ z, u.turn = z := ⟨_, rfl⟩
  rw [hut] at HTR hul4
  obtain ⟨rr, hrr⟩ : ∃ z, ut % 2 = z := ⟨_, rfl⟩
  have HRR : Hid (u.turn % 2 = rr) := Lib.hid (by rw [hut, hrr])
  have hm1 : (ut : Int).tmod 2 = (rr : Int) := by rw [Int.tmod_eq_emod_of_nonneg (by omega)]; omega
  have hm2 : (ut : Int) % 2 = (rr : Int) := by omega
  have hm3 : IntKind.u8.wrap (rr : Int) = (rr : Int) := by rw [IntKind.wrap_u8]; omega
  have cS := HE.out.s.2
  have rS := fun dd os => cell_regrown cS dd os
  clear hut hrr
  go_upto_region 11 with fail
  refine wp_region_quiet_below (by kernel_rfl) (by kernel_rfl) ?_
  repeat (first
    | go_big_quiet_step (fail)
    | quiet_step (with_reducible exact Calls.regrown_of (HTR.out _))
    | (refine quiet_rowC (by rfl) 87 (.tmp 7) rfl y rfl (fun w' hw' => by obtain ⟨p, rfl⟩ := hw'; exact HY.out.later (below_regrown _ _ _)) Tryd.underlying87 rfl HUZ.out ?_))
  refine wpQuiet_nil ?_
  rintro _ ⟨qq, rfl⟩
  have hbq := below_regrown wb qq.d qq.os
  have HBt := Lib.hid (HBt.out.trans (But.of_below (hbq.mono HYS.out)))
  have HE := Lib.hid (HE.out.later HP.out hbq)
  have HY := Lib.hid (HY.out.later hbq)
  have HYS : Hid (y ≤ (grow (redrawn wb qq.d) qq.os).heap.size) := Lib.hid (Nat.le_of_lt HY.out.lt)
  clear hbq cS rS
  generalize grow (redrawn wb qq.d) qq.os = wq at *
  by_cases hrs : rr = P.sd
  · have hrd : ((rr : Int) == (P.sd : Int)) = true := by rw [beq_iff_eq, hrs]
    have HRS : Hid (u.turn % 2 = P.sd) := Lib.hid (by rw [HRR.out, hrs])
    clear hrs hm1 hm2 hm3
    have HCH := Lib.hid (fun W' (hE' : Env P x n W') => HP.out.choose W' u hE'.cr hE'.tab HG.out.ok HC0.out)
    rw [HTU.out] at HCH
    have hz0 := HP.out.chw u HG.out.ok
    obtain ⟨hLl, hLe, hLn0⟩ := HP.out.chl q u HG.out HC0.out
    have hLm := HP.out.chm q u m HG.out HC0.out HRS.out
    obtain ⟨z0, hz0e⟩ : ∃ z, P.ch u = z := ⟨_, rfl⟩
    rw [hz0e] at HCH hz0 hLl hLe hLn0 hLm
    clear hz0e
    obtain ⟨Lm, hLmm⟩ : ∃ l, (bitsList z0).map Fin.val = l := ⟨_, rfl⟩
    have HZL : Hid (Lm = [] ++ (bitsList z0).map Fin.val) := Lib.hid (by rw [hLmm]; rfl)
    have hLn : Lm ≠ [] := by rw [← hLmm]; simpa using hLn0
    rw [hLmm] at hLl hLe hLm
    clear hLmm hLn0
    have hcf := HE.out.c.2
    have hce := fun w => HP.out.cent (#[Value.agg TU] ++ P.cc) w
    have hy0 := HY.out
    go_upto_region 12 with fail
    go_wp2_with (refine wpList_load_row rfl 87 (.tmp 7) rfl y rfl 87 TU (0, 0) _ hy0 Tryd.underlying87 rfl HUZ.out ?_)
    refine (HCH.out _ HE.out).mono ?_
    rintro e wc ⟨rfl, hbc⟩
    have HBt := Lib.hid (HBt.out.trans (But.of_below (hbc.mono HYS.out)))
    have HE := Lib.hid (HE.out.later HP.out hbc)
    have HY := Lib.hid (HY.out.later hbc)
    clear hbc hcf hce hy0
    clear HYS
    have HLN : Hid (Lm ≠ []) := Lib.hid hLn
    have HLG := Lib.hid hLl
    have HLE := Lib.hid hLe
    have HMU := Lib.hid hLm
    clear hLn hLl hLe hLm
    obtain ⟨g, hgg⟩ : ∃ g, P.wo m u = g := ⟨_, rfl⟩
    have HGC : Hid (∀ c, g c = wonS P.sd P.tr u c + P.mn m (u.put P.tr c).1) := Lib.hid (fun c => by rw [← hgg]; rfl)
    rw [hgg] at HMU
    clear hgg
    go_wp2_with fail
    go_loopw [12, 13] (fun cc ff wr => ∃ (pre : List Nat) (z : Nat), W64 z ∧ Lm = pre ++ (bitsList z).map Fin.val ∧ cc = .int .u64 (z : Int) ∧ ff = .int .i64 (fw g pre : Int) ∧ Env P x (n + pre.length * 5 ^ m) wr ∧ Row wr y 87 TU ∧ But y (x + 4) W wr) (fun cc _ _ => (intOf cc).toNat)
    case atStart => exact ⟨[], z0, hz0, HZL.out, rfl, rfl, HE.out.mono (by omega), HY.out, HBt.out⟩
    case round =>
      clear HE HY HBt
      obtain ⟨pre, z, hzw, hll, rfl, rfl, hE, hY, hBt⟩ := hrel
      have HLL := Lib.hid hll
      have HE := Lib.hid hE
      have HY := Lib.hid hY
      have HBt := Lib.hid hBt

      have HYS : Hid (y ≤ wr.heap.size) := Lib.hid (Nat.le_of_lt hY.lt)
      have HPL : Hid (pre.length ≤ 4) := Lib.hid (by
        have h1 := HLE.out
        have h2 := HQ.out
        rw [hll, List.length_append] at h1
        omega)
      clear hll hE hY hBt
      by_cases hz : z = 0
      · subst hz
        have HEX : Hid ((∀ c ∈ Lm, c ∈ pre) ∨ fw g pre = 0) := Lib.hid (.inl (fun c hc => by rw [HLL.out, bitsList_zero] at hc; simpa using hc))
        have HF : Hid (fw g pre = P.mn (m + 1) u) := Lib.hid (by
          rw [HMU.out]
          refine fw_done HLN.out (by rw [← HMU.out]; have := Prm.mn_le (P := P) (m := m + 1) HG.out HM1.out; have := HQ.out; omega) (fun c hc => by rw [HLL.out]; exact List.mem_append_left _ hc) ?_
          exact HEX.out)
        obtain ⟨f, hf⟩ : ∃ f, fw g pre = f := ⟨_, rfl⟩
        rw [hf] at HF ⊢
        clear hf
        have hc5 : wr.cell? ⟨y, 5, none⟩ = some (.int .u8 (ul : Int)) := (HY.out.cell 5).trans HU5.out
        have hul : ((ul : Int) == 0) = false := by rw [beq_eq_false_iff_ne]; have := HUL.out; omega
        go_wp2_with fail
        go_ret
        refine ⟨by rw [HF.out]; rfl, HE.out.mono ?_, by rw [HYW.out]; exact HBt.out⟩
        have h2 := HPL.out
        have h3 : pre.length * 5 ^ m ≤ 4 * 5 ^ m := Nat.mul_le_mul_right _ h2
        have h4 : 5 ^ (m + 1) = 5 * 5 ^ m := by rw [Nat.pow_succ, Nat.mul_comm]
        have h5 : 0 < 5 ^ m := Nat.pow_pos (by decide)
        omega
      · have hz1 : ((z : Int) != 0) = true := by rw [bne_iff_ne]; omega
        by_cases hf0 : fw g pre = 0
        · have HEX : Hid ((∀ c ∈ Lm, c ∈ pre) ∨ fw g pre = 0) := Lib.hid (.inr hf0)
          have hfd : ((fw g pre : Nat) : Int) = 0 := by rw [hf0]; rfl
          clear hf0
          have HF : Hid (fw g pre = P.mn (m + 1) u) := Lib.hid (by
            rw [HMU.out]
            refine fw_done HLN.out (by rw [← HMU.out]; have := Prm.mn_le (P := P) (m := m + 1) HG.out HM1.out; have := HQ.out; omega) (fun c hc => by rw [HLL.out]; exact List.mem_append_left _ hc) ?_
            exact HEX.out)
          obtain ⟨f, hf⟩ : ∃ f, fw g pre = f := ⟨_, rfl⟩
          rw [hf] at HF hfd ⊢
          have hfg : ¬ (0 : Int) < (f : Int) := by omega
          clear hfd
          clear hf
          have hc5 : wr.cell? ⟨y, 5, none⟩ = some (.int .u8 (ul : Int)) := (HY.out.cell 5).trans HU5.out
          have hul : ((ul : Int) == 0) = false := by rw [beq_eq_false_iff_ne]; have := HUL.out; omega
          go_wp2_with fail
          go_ret
          refine ⟨by rw [HF.out]; rfl, HE.out.mono ?_, by rw [HYW.out]; exact HBt.out⟩
          have h2 := HPL.out
          have h3 : pre.length * 5 ^ m ≤ 4 * 5 ^ m := Nat.mul_le_mul_right _ h2
          have h4 : 5 ^ (m + 1) = 5 * 5 ^ m := by rw [Nat.pow_succ, Nat.mul_comm]
          have h5 : 0 < 5 ^ m := Nat.pow_pos (by decide)
          omega
        · have hfd : (0 : Int) < ((fw g pre : Nat) : Int) := by omega
          obtain ⟨hk, hcons⟩ := bitsList_cons z hz hzw
          have hcl := HLG.out (Lib.ctz 64 z) (by rw [HLL.out, hcons]; simp)
          have HXX : Hid (Lm = (pre ++ [Lib.ctz 64 z]) ++ (bitsList (drop1 z)).map Fin.val) := Lib.hid (by rw [HLL.out, hcons]; simp)
          have HFI := Lib.hid (fun (W' : World) (hT : Tab W') => cl_first z hzw hz W' hT)
          have hdr := drop_run z hzw hz
          have HDW := Lib.hid (drop1_w64 hzw hz)
          have HDL := Lib.hid (drop1_lt z hz)
          have HPR : Hid (pre.length + 1 ≤ 4) := Lib.hid (by
            have h1 := HLE.out
            have h2 := HQ.out
            rw [HXX.out, List.length_append, List.length_append] at h1
            simp at h1
            omega)
          clear hcons hk
          obtain ⟨c, hc⟩ : ∃ c, Lib.ctz 64 z = c := ⟨_, rfl⟩
          rw [hc] at hcl HXX HFI
          clear hc
          obtain ⟨z', hz'⟩ : ∃ q, drop1 z = q := ⟨_, rfl⟩
          rw [hz'] at hdr HDW HDL HXX
          clear hz'
          obtain ⟨hc52, hcb⟩ := legal_bit (cards_pk HG.out.ok.pk hcl)
          obtain ⟨q', hg', hq', hm'⟩ := HG.out.put P.tr hcl HM1.out
          have HG2 := Lib.hid hg'
          have HM2 := Lib.hid hm'
          have HQ2 : Hid (q' ≤ 4) := Lib.hid (by have := HQ.out; omega)
          have HFW : Hid (fw g (pre ++ [c]) = min (fw g pre) (g c)) := Lib.hid (fw_snoc g pre c)
          have HPU := Lib.hid (fun W' => cl_put u HG.out.ok P.tr P.sd c hc52 HP.out.tr W')
          rw [HTU.out] at HPU
          obtain ⟨un, hun⟩ : ∃ un, (u.put P.tr c).1 = un := ⟨_, rfl⟩
          obtain ⟨wn, hwn⟩ : ∃ wn, wonS P.sd P.tr u c = wn := ⟨_, rfl⟩
          have hgc := HGC.out c
          rw [hun, hwn] at hgc
          rw [hun, hwn] at HPU
          rw [hun] at HG2 HM2
          have hw1 : wn ≤ 1 := by rw [← hwn]; exact (wonS_le P.sd P.tr u c).1
          have hr7 := Prm.mn_le (P := P) (m := m) HG2.out HM2.out
          obtain ⟨TN, hTN⟩ : ∃ A, tbA un = A := ⟨_, rfl⟩
          have HNZ : Hid ((Tryd.prog.info? 87).map (·.size) = some TN.size ∧ TN.size = 10 ∧ TN.all (·.oneCell') = true) := Lib.hid (by rw [← hTN]; exact ⟨size_ct, rfl, tbA_one _⟩)
          have HIH := Lib.hid (fun n' W' hE' hn' => HI.out n' un q' W' HG2.out HM2.out HQ2.out hE' hn')
          rw [hTN] at HPU HIH
          obtain ⟨r, hr⟩ : ∃ r, P.mn m un = r := ⟨_, rfl⟩
          rw [hr] at hgc HIH hr7
          have hq2 := HQ2.out
          clear hcl hc52 hcb hg' hq' hm' hun hwn hTN hr hf0
          go_upto_region 16 with fail
          refine wp_region_reliesT (ChF [.agg TU, .int .u64 (z : Int), .int .u8 (c : Int), .int .u8 (P.tr : Int), .int .u8 (P.sd : Int), .tuple #[.agg TN, .int .i64 (wn : Int)], .tuple #[.agg TN, .int .i64 (wn : Int)], .agg TN, .int .i64 (wn : Int), undef, undef, .int .i64 (wn : Int)] [9, 10] [] (FoS wr TN)) (fun _ => true) (by kernel_rfl) (by kernel_rfl) (by kernel_rfl) (by kernel_rfl) (ChF.start ⟨(Below.refl _ _).drew, trivial⟩) ?obls ?fini
          case obls =>
            refine ⟨⟨?_, ?_⟩, ⟨?_, ?_⟩, ⟨?_, ?_⟩, ⟨?_, ?_⟩, ⟨?_, ?_⟩, ⟨?_, ?_⟩, ⟨?_, ?_⟩, ⟨?_, ?_⟩, ⟨?_, ?_⟩, ⟨?_, ?_⟩, ⟨?_, ?_⟩, ⟨?_, ?_⟩, trivial⟩
            · rfl
            · rintro ρ f W ⟨vs, us, hX⟩ hfi hw hcl hf
              have f7 : ρ (.tmp 7) = .pointer (some ⟨y, 0, none⟩) := hf.1 7 (by simp [Op.operands])
              exact ok_value (v := .agg TU) (w' := W) (exec_load_row 87 (.tmp 7) rfl y f7 (HY.out.later hX.st.1) Tryd.underlying87 rfl HUZ.out) (hX.pure 0 _ (by decide) (by decide) rfl hX.st)
            · rfl
            · rintro ρ f W ⟨vs, us, hX⟩ hfi hw hcl hf
              have f12 : ρ (.tmp 12) = .int .u64 (z : Int) := hf.1 12 (by simp [Op.operands])
              exact ok_value (v := .int .u64 (z : Int)) (w' := W) (by simp [execOp, f12]) (hX.pure 1 _ (by decide) (by decide) rfl hX.st)
            · rfl
            · rintro ρ f W ⟨vs, us, hX⟩ hfi hw hcl hf
              have f62 : ρ (.tmp 62) = .int .u64 (z : Int) := hX.val 1 _ _ (by decide) (by decide) (hf.1 62 (by simp [Op.operands, Call.operands])) rfl
              refine ok_call (f := 50) (args := #[.int .u64 (z : Int)]) (by simp [execOp, f62, hf.2.2.2, go_sem]) ?_
              refine (HFI.out W (HE.out.later HP.out hX.st.1).tab).mono ?_
              rintro e w5 ⟨rfl, rfl⟩
              exact ⟨_, rfl, hX.pure 2 _ (by decide) (by decide) rfl hX.st⟩
            · rfl
            · rintro ρ f W ⟨vs, us, hX⟩ hfi hw hcl hf
              have f5 : ρ (.tmp 5) = .pointer (some ⟨x, 0, none⟩) := hf.1 5 (by simp [Op.operands])
              have hc := (HE.out.later HP.out hX.st.1).t.2
              exact ok_value (v := .int .u8 (P.tr : Int)) (w' := W) (by simp [execOp, f5, go_sem, hc]) (hX.pure 3 _ (by decide) (by decide) rfl hX.st)
            · rfl
            · rintro ρ f W ⟨vs, us, hX⟩ hfi hw hcl hf
              have f3 : ρ (.tmp 3) = .pointer (some ⟨x + 1, 0, none⟩) := hf.1 3 (by simp [Op.operands])
              have hc := (HE.out.later HP.out hX.st.1).s.2
              exact ok_value (v := .int .u8 (P.sd : Int)) (w' := W) (by simp [execOp, f3, go_sem, hc]) (hX.pure 4 _ (by decide) (by decide) rfl hX.st)
            · rfl
            · rintro ρ f W ⟨vs, us, hX⟩ hfi hw hcl hf
              have f61 : ρ (.tmp 61) = .agg TU := hX.val 0 _ _ (by decide) (by decide) (hf.1 61 (by simp [Op.operands, Call.operands])) rfl
              have f63 : ρ (.tmp 63) = .int .u8 (c : Int) := hX.val 2 _ _ (by decide) (by decide) (hf.1 63 (by simp [Op.operands, Call.operands])) rfl
              have f64 : ρ (.tmp 64) = .int .u8 (P.tr : Int) := hX.val 3 _ _ (by decide) (by decide) (hf.1 64 (by simp [Op.operands, Call.operands])) rfl
              have f65 : ρ (.tmp 65) = .int .u8 (P.sd : Int) := hX.val 4 _ _ (by decide) (by decide) (hf.1 65 (by simp [Op.operands, Call.operands])) rfl
              refine ok_call (f := 52) (args := #[.agg TU, .int .u8 (c : Int), .int .u8 (P.tr : Int), .int .u8 (P.sd : Int)]) (by simp [execOp, f61, f63, f64, f65, hf.2.2.2, go_sem]) ?_
              refine (HPU.out W).mono ?_
              rintro e w5 ⟨rfl, hb5⟩
              exact ⟨_, rfl, hX.pure 5 _ (by decide) (by decide) rfl (FoS.below hX.st hb5)⟩
            · rfl
            · rintro ρ f W ⟨vs, us, hX⟩ hfi hw hcl hf
              have f66 : ρ (.tmp 66) = .tuple #[.agg TN, .int .i64 (wn : Int)] := hX.val 5 _ _ (by decide) (by decide) (hf.1 66 (by simp [Op.operands])) rfl
              exact ok_value (v := .tuple #[.agg TN, .int .i64 (wn : Int)]) (w' := W) (by simp [execOp, f66]) (hX.pure 6 _ (by decide) (by decide) rfl hX.st)
            · rfl
            · rintro ρ f W ⟨vs, us, hX⟩ hfi hw hcl hf
              have f60 : ρ (.tmp 60) = .tuple #[.agg TN, .int .i64 (wn : Int)] := hX.val 6 _ _ (by decide) (by decide) (hf.1 60 (by simp [Op.operands])) rfl
              exact ok_value (v := .agg TN) (w' := W) (by simp [execOp, f60, go_sem]) (hX.pure 7 _ (by decide) (by decide) rfl hX.st)
            · rfl
            · rintro ρ f W ⟨vs, us, hX⟩ hfi hw hcl hf
              have f60 : ρ (.tmp 60) = .tuple #[.agg TN, .int .i64 (wn : Int)] := hX.val 6 _ _ (by decide) (by decide) (hf.1 60 (by simp [Op.operands])) rfl
              exact ok_value (v := .int .i64 (wn : Int)) (w' := W) (by simp [execOp, f60, go_sem]) (hX.pure 8 _ (by decide) (by decide) rfl hX.st)
            · rfl
            · rintro ρ f W ⟨vs, us, hX⟩ hfi hw hcl hf
              have hl := hX.le1 0 9 rfl hfi
              obtain rfl := list0 hl
              obtain ⟨hbe, -⟩ := hX.st
              refine ok_value (exec_alloc 87 rfl (c := zeroT) (fun w => by kernel_rfl)) (hX.step1 9 _ rfl (by decide) (by decide) ⟨hbe.alloc hbe.size _, W.heap.size, rfl, hbe.size, Row.new W 87 zeroT⟩)
            · rfl
            · rintro ρ f W ⟨vs, us, hX⟩ hfi hw hcl hf
              have g14 := hX.get1 0 9 rfl (hf.1 14 (by simp [Op.operands]))
              have f67 : ρ (.tmp 67) = .agg TN := hX.val 7 _ _ (by decide) (by decide) (hf.1 67 (by simp [Op.operands])) rfl
              have hl := hX.le1 1 10 rfl hfi
              obtain ⟨p, rfl⟩ : ∃ p, vs = [p] := by
                have h6 := hw 9 (by decide)
                obtain ⟨v, hv⟩ := Option.isSome_iff_exists.1 h6
                exact ⟨v, list1 hl (hX.get1 0 9 rfl hv)⟩
              obtain ⟨hbe, g0, rfl, hg0, hr0⟩ := hX.st
              have f14 : ρ (.tmp 14) = .pointer (some ⟨g0, 0, none⟩) := (Option.some.inj (show some (Value.pointer (some ⟨g0, 0, none⟩)) = some (ρ (.tmp 14)) from g14)).symm
              have hb5 := below_setRow (Below.refl g0 W) (Nat.le_refl _) TN
              exact ok_skip (exec_store_row 87 (.tmp 14) (.tmp 67) rfl g0 TN f14 f67 hr0 HNZ.out.1 (by rw [HNZ.out.2.1]; rfl) HNZ.out.2.2) (hX.step1 10 _ rfl (by decide) (by decide) ⟨hbe.trans (hb5.mono hg0), g0, rfl, hg0, setRow_heap _ _ _ _ _ _ hr0⟩)
            · rfl
            · rintro ρ f W ⟨vs, us, hX⟩ hfi hw hcl hf
              have f68 : ρ (.tmp 68) = .int .i64 (wn : Int) := hX.val 8 _ _ (by decide) (by decide) (hf.1 68 (by simp [Op.operands])) rfl
              exact ok_value (v := .int .i64 (wn : Int)) (w' := W) (by simp [execOp, f68]) (hX.pure 11 _ (by decide) (by decide) rfl hX.st)
          case fini =>
            rintro us w6 hlen ⟨vs, us', hX⟩
            have hl0 : us.length = 12 := hlen
            match us, hl0 with
            | [y0, y1, y2, y3, y4, y5, y6, y7, y8, y9, y10, y11], _ =>
              have hst := hX.st
              obtain ⟨p, hvs⟩ := list2 hX.l1 (hX.get1 1 10 rfl (v := y10) rfl)
              have hy9 : some p = some y9 := by have := hX.get1 0 9 rfl (v := y9) rfl; rw [hvs] at this; exact this
              obtain rfl := Option.some.inj hy9
              have hy : y11 = .int .i64 (wn : Int) := hX.val 11 _ _ (by decide) (by decide) rfl rfl
              subst hy
              rw [hvs] at hst
              obtain ⟨hb6, g0, rfl, hg0, hr6⟩ := hst
              have HE6 := Lib.hid (HE.out.later HP.out hb6)
              have HY6 := Lib.hid (HY.out.later hb6)
              have HB6 : Hid (But y (x + 4) W w6) := Lib.hid (HBt.out.trans (But.of_below (hb6.mono HYS.out)))

              have HG0 : Hid (y ≤ g0) := Lib.hid (Nat.le_trans HYS.out hg0)
              clear hX hvs hb6 hg0 hlen
              simp only [putAll, List.zip_cons_cons, List.zip_nil_right, List.foldl_cons, List.foldl_nil]
              simp only [Act.put, List.setIfInBounds_toArray, List.set_cons_succ, List.set_cons_zero]
              have hcf := HE6.out.f.2
              unfold folV at hcf
              have hnn : n + pre.length * 5 ^ m + 5 ^ m < maxLen := by
                have h1 := HN.out
                have h2 := HPR.out
                have h3 : (pre.length + 1) * 5 ^ m ≤ 4 * 5 ^ m := Nat.mul_le_mul_right _ h2
                have h4 : 5 ^ (m + 1) = 5 * 5 ^ m := by rw [Nat.pow_succ, Nat.mul_comm]
                rw [Nat.succ_mul] at h3
                omega
              have HNN := Lib.hid hnn
              clear hnn
              go_upto_region 17 with fail
              go_wp2_with (refine wpList_load_row rfl 87 (.tmp 14) rfl g0 rfl 87 TN (0, 0) _ hr6 Tryd.underlying87 rfl HNZ.out.1 ?_)
              refine (HIH.out _ w6 HE6.out HNN.out).mono ?_
              rintro e w7 ⟨rfl, hE7, hB7⟩
              have HE7 := Lib.hid hE7
              have hmx := HE6.out.mlt
              have HY7 := Lib.hid (hB7.row HY6.out HY6.out.lt HYX.out.1)

              have HB7 : Hid (But y (x + 4) W w7) := Lib.hid (HB6.out.trans (hB7.mono (Nat.le_of_lt HY6.out.lt)))
              clear hE7 hB7 hr6 hcf hmx
              have hwr : IntKind.i64.wrap ((wn : Int) + (r : Int)) = (wn : Int) + (r : Int) := IntWalk.i64_in _ (by omega)
              have hmin : (if (wn : Int) + (r : Int) < ((fw g pre : Nat) : Int) then (wn : Int) + (r : Int) else ((fw g pre : Nat) : Int)) = ((fw g (pre ++ [c]) : Nat) : Int) := by
                rw [HFW.out, hgc]
                split <;> omega
              go_wp2_with fail
              go_roundw
              case rel => exact ⟨pre ++ [c], z', HDW.out, HXX.out, by go_num, by go_num, by rw [List.length_append, List.length_singleton, Nat.succ_mul, ← Nat.add_assoc]; exact HE7.out, HY7.out, HB7.out⟩
              case measure => have := HDL.out; simp [intOf]; omega
  · have hrd : ((rr : Int) == (P.sd : Int)) = false := by rw [beq_eq_false_iff_ne]; omega
    have HRS : Hid (u.turn % 2 ≠ P.sd) := Lib.hid (by rw [HRR.out]; exact hrs)
    rw [hrd]
    clear hrs hm1 hm2 hm3
    obtain ⟨hLl, hLe, hLn0⟩ := HG.out.few HC0.out
    have hLm := HG.out.few_mn (P := P) m (.inr HRS.out)
    have hz0 := fewM_w64 HG.out.ok
    obtain ⟨z0, hz0e⟩ : ∃ z, fewM u = z := ⟨_, rfl⟩
    rw [hz0e] at hz0 hLl hLe hLn0 hLm ⊢
    clear hz0e
    obtain ⟨Lm, hLmm⟩ : ∃ l, (bitsList z0).map Fin.val = l := ⟨_, rfl⟩
    have HZL : Hid (Lm = [] ++ (bitsList z0).map Fin.val) := Lib.hid (by rw [hLmm]; rfl)
    have hLn : Lm ≠ [] := by rw [← hLmm]; simpa using hLn0
    rw [hLmm] at hLl hLe hLm
    clear hLmm hLn0
    clear HYS
    have HLN : Hid (Lm ≠ []) := Lib.hid hLn
    have HLG := Lib.hid hLl
    have HLE := Lib.hid hLe
    have HMU := Lib.hid hLm
    clear hLn hLl hLe hLm
    obtain ⟨g, hgg⟩ : ∃ g, P.wo m u = g := ⟨_, rfl⟩
    have HGC : Hid (∀ c, g c = wonS P.sd P.tr u c + P.mn m (u.put P.tr c).1) := Lib.hid (fun c => by rw [← hgg]; rfl)
    rw [hgg] at HMU
    clear hgg
    go_wp2_with fail
    go_loopw [12, 13] (fun cc ff wr => ∃ (pre : List Nat) (z : Nat), W64 z ∧ Lm = pre ++ (bitsList z).map Fin.val ∧ cc = .int .u64 (z : Int) ∧ ff = .int .i64 (fw g pre : Int) ∧ Env P x (n + pre.length * 5 ^ m) wr ∧ Row wr y 87 TU ∧ But y (x + 4) W wr) (fun cc _ _ => (intOf cc).toNat)
    case atStart => exact ⟨[], z0, hz0, HZL.out, rfl, rfl, HE.out.mono (by omega), HY.out, HBt.out⟩
    case round =>
      clear HE HY HBt
      obtain ⟨pre, z, hzw, hll, rfl, rfl, hE, hY, hBt⟩ := hrel
      have HLL := Lib.hid hll
      have HE := Lib.hid hE
      have HY := Lib.hid hY
      have HBt := Lib.hid hBt

      have HYS : Hid (y ≤ wr.heap.size) := Lib.hid (Nat.le_of_lt hY.lt)
      have HPL : Hid (pre.length ≤ 4) := Lib.hid (by
        have h1 := HLE.out
        have h2 := HQ.out
        rw [hll, List.length_append] at h1
        omega)
      clear hll hE hY hBt
      by_cases hz : z = 0
      · subst hz
        have HEX : Hid ((∀ c ∈ Lm, c ∈ pre) ∨ fw g pre = 0) := Lib.hid (.inl (fun c hc => by rw [HLL.out, bitsList_zero] at hc; simpa using hc))
        have HF : Hid (fw g pre = P.mn (m + 1) u) := Lib.hid (by
          rw [HMU.out]
          refine fw_done HLN.out (by rw [← HMU.out]; have := Prm.mn_le (P := P) (m := m + 1) HG.out HM1.out; have := HQ.out; omega) (fun c hc => by rw [HLL.out]; exact List.mem_append_left _ hc) ?_
          exact HEX.out)
        obtain ⟨f, hf⟩ : ∃ f, fw g pre = f := ⟨_, rfl⟩
        rw [hf] at HF ⊢
        clear hf
        have hc5 : wr.cell? ⟨y, 5, none⟩ = some (.int .u8 (ul : Int)) := (HY.out.cell 5).trans HU5.out
        have hul : ((ul : Int) == 0) = false := by rw [beq_eq_false_iff_ne]; have := HUL.out; omega
        go_wp2_with fail
        go_ret
        refine ⟨by rw [HF.out]; rfl, HE.out.mono ?_, by rw [HYW.out]; exact HBt.out⟩
        have h2 := HPL.out
        have h3 : pre.length * 5 ^ m ≤ 4 * 5 ^ m := Nat.mul_le_mul_right _ h2
        have h4 : 5 ^ (m + 1) = 5 * 5 ^ m := by rw [Nat.pow_succ, Nat.mul_comm]
        have h5 : 0 < 5 ^ m := Nat.pow_pos (by decide)
        omega
      · have hz1 : ((z : Int) != 0) = true := by rw [bne_iff_ne]; omega
        by_cases hf0 : fw g pre = 0
        · have HEX : Hid ((∀ c ∈ Lm, c ∈ pre) ∨ fw g pre = 0) := Lib.hid (.inr hf0)
          have hfd : ((fw g pre : Nat) : Int) = 0 := by rw [hf0]; rfl
          clear hf0
          have HF : Hid (fw g pre = P.mn (m + 1) u) := Lib.hid (by
            rw [HMU.out]
            refine fw_done HLN.out (by rw [← HMU.out]; have := Prm.mn_le (P := P) (m := m + 1) HG.out HM1.out; have := HQ.out; omega) (fun c hc => by rw [HLL.out]; exact List.mem_append_left _ hc) ?_
            exact HEX.out)
          obtain ⟨f, hf⟩ : ∃ f, fw g pre = f := ⟨_, rfl⟩
          rw [hf] at HF hfd ⊢
          have hfg : ¬ (0 : Int) < (f : Int) := by omega
          clear hfd
          clear hf
          have hc5 : wr.cell? ⟨y, 5, none⟩ = some (.int .u8 (ul : Int)) := (HY.out.cell 5).trans HU5.out
          have hul : ((ul : Int) == 0) = false := by rw [beq_eq_false_iff_ne]; have := HUL.out; omega
          go_wp2_with fail
          go_ret
          refine ⟨by rw [HF.out]; rfl, HE.out.mono ?_, by rw [HYW.out]; exact HBt.out⟩
          have h2 := HPL.out
          have h3 : pre.length * 5 ^ m ≤ 4 * 5 ^ m := Nat.mul_le_mul_right _ h2
          have h4 : 5 ^ (m + 1) = 5 * 5 ^ m := by rw [Nat.pow_succ, Nat.mul_comm]
          have h5 : 0 < 5 ^ m := Nat.pow_pos (by decide)
          omega
        · have hfd : (0 : Int) < ((fw g pre : Nat) : Int) := by omega
          obtain ⟨hk, hcons⟩ := bitsList_cons z hz hzw
          have hcl := HLG.out (Lib.ctz 64 z) (by rw [HLL.out, hcons]; simp)
          have HXX : Hid (Lm = (pre ++ [Lib.ctz 64 z]) ++ (bitsList (drop1 z)).map Fin.val) := Lib.hid (by rw [HLL.out, hcons]; simp)
          have HFI := Lib.hid (fun (W' : World) (hT : Tab W') => cl_first z hzw hz W' hT)
          have hdr := drop_run z hzw hz
          have HDW := Lib.hid (drop1_w64 hzw hz)
          have HDL := Lib.hid (drop1_lt z hz)
          have HPR : Hid (pre.length + 1 ≤ 4) := Lib.hid (by
            have h1 := HLE.out
            have h2 := HQ.out
            rw [HXX.out, List.length_append, List.length_append] at h1
            simp at h1
            omega)
          clear hcons hk
          obtain ⟨c, hc⟩ : ∃ c, Lib.ctz 64 z = c := ⟨_, rfl⟩
          rw [hc] at hcl HXX HFI
          clear hc
          obtain ⟨z', hz'⟩ : ∃ q, drop1 z = q := ⟨_, rfl⟩
          rw [hz'] at hdr HDW HDL HXX
          clear hz'
          obtain ⟨hc52, hcb⟩ := legal_bit (cards_pk HG.out.ok.pk hcl)
          obtain ⟨q', hg', hq', hm'⟩ := HG.out.put P.tr hcl HM1.out
          have HG2 := Lib.hid hg'
          have HM2 := Lib.hid hm'
          have HQ2 : Hid (q' ≤ 4) := Lib.hid (by have := HQ.out; omega)
          have HFW : Hid (fw g (pre ++ [c]) = min (fw g pre) (g c)) := Lib.hid (fw_snoc g pre c)
          have HPU := Lib.hid (fun W' => cl_put u HG.out.ok P.tr P.sd c hc52 HP.out.tr W')
          rw [HTU.out] at HPU
          obtain ⟨un, hun⟩ : ∃ un, (u.put P.tr c).1 = un := ⟨_, rfl⟩
          obtain ⟨wn, hwn⟩ : ∃ wn, wonS P.sd P.tr u c = wn := ⟨_, rfl⟩
          have hgc := HGC.out c
          rw [hun, hwn] at hgc
          rw [hun, hwn] at HPU
          rw [hun] at HG2 HM2
          have hw1 : wn ≤ 1 := by rw [← hwn]; exact (wonS_le P.sd P.tr u c).1
          have hr7 := Prm.mn_le (P := P) (m := m) HG2.out HM2.out
          obtain ⟨TN, hTN⟩ : ∃ A, tbA un = A := ⟨_, rfl⟩
          have HNZ : Hid ((Tryd.prog.info? 87).map (·.size) = some TN.size ∧ TN.size = 10 ∧ TN.all (·.oneCell') = true) := Lib.hid (by rw [← hTN]; exact ⟨size_ct, rfl, tbA_one _⟩)
          have HIH := Lib.hid (fun n' W' hE' hn' => HI.out n' un q' W' HG2.out HM2.out HQ2.out hE' hn')
          rw [hTN] at HPU HIH
          obtain ⟨r, hr⟩ : ∃ r, P.mn m un = r := ⟨_, rfl⟩
          rw [hr] at hgc HIH hr7
          have hq2 := HQ2.out
          clear hcl hc52 hcb hg' hq' hm' hun hwn hTN hr hf0
          go_upto_region 16 with fail
          refine wp_region_reliesT (ChF [.agg TU, .int .u64 (z : Int), .int .u8 (c : Int), .int .u8 (P.tr : Int), .int .u8 (P.sd : Int), .tuple #[.agg TN, .int .i64 (wn : Int)], .tuple #[.agg TN, .int .i64 (wn : Int)], .agg TN, .int .i64 (wn : Int), undef, undef, .int .i64 (wn : Int)] [9, 10] [] (FoS wr TN)) (fun _ => true) (by kernel_rfl) (by kernel_rfl) (by kernel_rfl) (by kernel_rfl) (ChF.start ⟨(Below.refl _ _).drew, trivial⟩) ?obls ?fini
          case obls =>
            refine ⟨⟨?_, ?_⟩, ⟨?_, ?_⟩, ⟨?_, ?_⟩, ⟨?_, ?_⟩, ⟨?_, ?_⟩, ⟨?_, ?_⟩, ⟨?_, ?_⟩, ⟨?_, ?_⟩, ⟨?_, ?_⟩, ⟨?_, ?_⟩, ⟨?_, ?_⟩, ⟨?_, ?_⟩, trivial⟩
            · rfl
            · rintro ρ f W ⟨vs, us, hX⟩ hfi hw hcl hf
              have f7 : ρ (.tmp 7) = .pointer (some ⟨y, 0, none⟩) := hf.1 7 (by simp [Op.operands])
              exact ok_value (v := .agg TU) (w' := W) (exec_load_row 87 (.tmp 7) rfl y f7 (HY.out.later hX.st.1) Tryd.underlying87 rfl HUZ.out) (hX.pure 0 _ (by decide) (by decide) rfl hX.st)
            · rfl
            · rintro ρ f W ⟨vs, us, hX⟩ hfi hw hcl hf
              have f12 : ρ (.tmp 12) = .int .u64 (z : Int) := hf.1 12 (by simp [Op.operands])
              exact ok_value (v := .int .u64 (z : Int)) (w' := W) (by simp [execOp, f12]) (hX.pure 1 _ (by decide) (by decide) rfl hX.st)
            · rfl
            · rintro ρ f W ⟨vs, us, hX⟩ hfi hw hcl hf
              have f62 : ρ (.tmp 62) = .int .u64 (z : Int) := hX.val 1 _ _ (by decide) (by decide) (hf.1 62 (by simp [Op.operands, Call.operands])) rfl
              refine ok_call (f := 50) (args := #[.int .u64 (z : Int)]) (by simp [execOp, f62, hf.2.2.2, go_sem]) ?_
              refine (HFI.out W (HE.out.later HP.out hX.st.1).tab).mono ?_
              rintro e w5 ⟨rfl, rfl⟩
              exact ⟨_, rfl, hX.pure 2 _ (by decide) (by decide) rfl hX.st⟩
            · rfl
            · rintro ρ f W ⟨vs, us, hX⟩ hfi hw hcl hf
              have f5 : ρ (.tmp 5) = .pointer (some ⟨x, 0, none⟩) := hf.1 5 (by simp [Op.operands])
              have hc := (HE.out.later HP.out hX.st.1).t.2
              exact ok_value (v := .int .u8 (P.tr : Int)) (w' := W) (by simp [execOp, f5, go_sem, hc]) (hX.pure 3 _ (by decide) (by decide) rfl hX.st)
            · rfl
            · rintro ρ f W ⟨vs, us, hX⟩ hfi hw hcl hf
              have f3 : ρ (.tmp 3) = .pointer (some ⟨x + 1, 0, none⟩) := hf.1 3 (by simp [Op.operands])
              have hc := (HE.out.later HP.out hX.st.1).s.2
              exact ok_value (v := .int .u8 (P.sd : Int)) (w' := W) (by simp [execOp, f3, go_sem, hc]) (hX.pure 4 _ (by decide) (by decide) rfl hX.st)
            · rfl
            · rintro ρ f W ⟨vs, us, hX⟩ hfi hw hcl hf
              have f61 : ρ (.tmp 61) = .agg TU := hX.val 0 _ _ (by decide) (by decide) (hf.1 61 (by simp [Op.operands, Call.operands])) rfl
              have f63 : ρ (.tmp 63) = .int .u8 (c : Int) := hX.val 2 _ _ (by decide) (by decide) (hf.1 63 (by simp [Op.operands, Call.operands])) rfl
              have f64 : ρ (.tmp 64) = .int .u8 (P.tr : Int) := hX.val 3 _ _ (by decide) (by decide) (hf.1 64 (by simp [Op.operands, Call.operands])) rfl
              have f65 : ρ (.tmp 65) = .int .u8 (P.sd : Int) := hX.val 4 _ _ (by decide) (by decide) (hf.1 65 (by simp [Op.operands, Call.operands])) rfl
              refine ok_call (f := 52) (args := #[.agg TU, .int .u8 (c : Int), .int .u8 (P.tr : Int), .int .u8 (P.sd : Int)]) (by simp [execOp, f61, f63, f64, f65, hf.2.2.2, go_sem]) ?_
              refine (HPU.out W).mono ?_
              rintro e w5 ⟨rfl, hb5⟩
              exact ⟨_, rfl, hX.pure 5 _ (by decide) (by decide) rfl (FoS.below hX.st hb5)⟩
            · rfl
            · rintro ρ f W ⟨vs, us, hX⟩ hfi hw hcl hf
              have f66 : ρ (.tmp 66) = .tuple #[.agg TN, .int .i64 (wn : Int)] := hX.val 5 _ _ (by decide) (by decide) (hf.1 66 (by simp [Op.operands])) rfl
              exact ok_value (v := .tuple #[.agg TN, .int .i64 (wn : Int)]) (w' := W) (by simp [execOp, f66]) (hX.pure 6 _ (by decide) (by decide) rfl hX.st)
            · rfl
            · rintro ρ f W ⟨vs, us, hX⟩ hfi hw hcl hf
              have f60 : ρ (.tmp 60) = .tuple #[.agg TN, .int .i64 (wn : Int)] := hX.val 6 _ _ (by decide) (by decide) (hf.1 60 (by simp [Op.operands])) rfl
              exact ok_value (v := .agg TN) (w' := W) (by simp [execOp, f60, go_sem]) (hX.pure 7 _ (by decide) (by decide) rfl hX.st)
            · rfl
            · rintro ρ f W ⟨vs, us, hX⟩ hfi hw hcl hf
              have f60 : ρ (.tmp 60) = .tuple #[.agg TN, .int .i64 (wn : Int)] := hX.val 6 _ _ (by decide) (by decide) (hf.1 60 (by simp [Op.operands])) rfl
              exact ok_value (v := .int .i64 (wn : Int)) (w' := W) (by simp [execOp, f60, go_sem]) (hX.pure 8 _ (by decide) (by decide) rfl hX.st)
            · rfl
            · rintro ρ f W ⟨vs, us, hX⟩ hfi hw hcl hf
              have hl := hX.le1 0 9 rfl hfi
              obtain rfl := list0 hl
              obtain ⟨hbe, -⟩ := hX.st
              refine ok_value (exec_alloc 87 rfl (c := zeroT) (fun w => by kernel_rfl)) (hX.step1 9 _ rfl (by decide) (by decide) ⟨hbe.alloc hbe.size _, W.heap.size, rfl, hbe.size, Row.new W 87 zeroT⟩)
            · rfl
            · rintro ρ f W ⟨vs, us, hX⟩ hfi hw hcl hf
              have g14 := hX.get1 0 9 rfl (hf.1 14 (by simp [Op.operands]))
              have f67 : ρ (.tmp 67) = .agg TN := hX.val 7 _ _ (by decide) (by decide) (hf.1 67 (by simp [Op.operands])) rfl
              have hl := hX.le1 1 10 rfl hfi
              obtain ⟨p, rfl⟩ : ∃ p, vs = [p] := by
                have h6 := hw 9 (by decide)
                obtain ⟨v, hv⟩ := Option.isSome_iff_exists.1 h6
                exact ⟨v, list1 hl (hX.get1 0 9 rfl hv)⟩
              obtain ⟨hbe, g0, rfl, hg0, hr0⟩ := hX.st
              have f14 : ρ (.tmp 14) = .pointer (some ⟨g0, 0, none⟩) := (Option.some.inj (show some (Value.pointer (some ⟨g0, 0, none⟩)) = some (ρ (.tmp 14)) from g14)).symm
              have hb5 := below_setRow (Below.refl g0 W) (Nat.le_refl _) TN
              exact ok_skip (exec_store_row 87 (.tmp 14) (.tmp 67) rfl g0 TN f14 f67 hr0 HNZ.out.1 (by rw [HNZ.out.2.1]; rfl) HNZ.out.2.2) (hX.step1 10 _ rfl (by decide) (by decide) ⟨hbe.trans (hb5.mono hg0), g0, rfl, hg0, setRow_heap _ _ _ _ _ _ hr0⟩)
            · rfl
            · rintro ρ f W ⟨vs, us, hX⟩ hfi hw hcl hf
              have f68 : ρ (.tmp 68) = .int .i64 (wn : Int) := hX.val 8 _ _ (by decide) (by decide) (hf.1 68 (by simp [Op.operands])) rfl
              exact ok_value (v := .int .i64 (wn : Int)) (w' := W) (by simp [execOp, f68]) (hX.pure 11 _ (by decide) (by decide) rfl hX.st)
          case fini =>
            rintro us w6 hlen ⟨vs, us', hX⟩
            have hl0 : us.length = 12 := hlen
            match us, hl0 with
            | [y0, y1, y2, y3, y4, y5, y6, y7, y8, y9, y10, y11], _ =>
              have hst := hX.st
              obtain ⟨p, hvs⟩ := list2 hX.l1 (hX.get1 1 10 rfl (v := y10) rfl)
              have hy9 : some p = some y9 := by have := hX.get1 0 9 rfl (v := y9) rfl; rw [hvs] at this; exact this
              obtain rfl := Option.some.inj hy9
              have hy : y11 = .int .i64 (wn : Int) := hX.val 11 _ _ (by decide) (by decide) rfl rfl
              subst hy
              rw [hvs] at hst
              obtain ⟨hb6, g0, rfl, hg0, hr6⟩ := hst
              have HE6 := Lib.hid (HE.out.later HP.out hb6)
              have HY6 := Lib.hid (HY.out.later hb6)
              have HB6 : Hid (But y (x + 4) W w6) := Lib.hid (HBt.out.trans (But.of_below (hb6.mono HYS.out)))

              have HG0 : Hid (y ≤ g0) := Lib.hid (Nat.le_trans HYS.out hg0)
              clear hX hvs hb6 hg0 hlen
              simp only [putAll, List.zip_cons_cons, List.zip_nil_right, List.foldl_cons, List.foldl_nil]
              simp only [Act.put, List.setIfInBounds_toArray, List.set_cons_succ, List.set_cons_zero]
              have hcf := HE6.out.f.2
              unfold folV at hcf
              have hnn : n + pre.length * 5 ^ m + 5 ^ m < maxLen := by
                have h1 := HN.out
                have h2 := HPR.out
                have h3 : (pre.length + 1) * 5 ^ m ≤ 4 * 5 ^ m := Nat.mul_le_mul_right _ h2
                have h4 : 5 ^ (m + 1) = 5 * 5 ^ m := by rw [Nat.pow_succ, Nat.mul_comm]
                rw [Nat.succ_mul] at h3
                omega
              have HNN := Lib.hid hnn
              clear hnn
              go_upto_region 17 with fail
              go_wp2_with (refine wpList_load_row rfl 87 (.tmp 14) rfl g0 rfl 87 TN (0, 0) _ hr6 Tryd.underlying87 rfl HNZ.out.1 ?_)
              refine (HIH.out _ w6 HE6.out HNN.out).mono ?_
              rintro e w7 ⟨rfl, hE7, hB7⟩
              have HE7 := Lib.hid hE7
              have hmx := HE6.out.mlt
              have HY7 := Lib.hid (hB7.row HY6.out HY6.out.lt HYX.out.1)

              have HB7 : Hid (But y (x + 4) W w7) := Lib.hid (HB6.out.trans (hB7.mono (Nat.le_of_lt HY6.out.lt)))
              clear hE7 hB7 hr6 hcf hmx
              have hwr : IntKind.i64.wrap ((wn : Int) + (r : Int)) = (wn : Int) + (r : Int) := IntWalk.i64_in _ (by omega)
              have hmin : (if (wn : Int) + (r : Int) < ((fw g pre : Nat) : Int) then (wn : Int) + (r : Int) else ((fw g pre : Nat) : Int)) = ((fw g (pre ++ [c]) : Nat) : Int) := by
                rw [HFW.out, hgc]
                split <;> omega
              go_wp2_with fail
              go_roundw
              case rel => exact ⟨pre ++ [c], z', HDW.out, HXX.out, by go_num, by go_num, by rw [List.length_append, List.length_singleton, Nat.succ_mul, ← Nat.add_assoc]; exact HE7.out, HY7.out, HB7.out⟩
              case measure => have := HDL.out; simp [intOf]; omega
end Go.Proofs.YtnbillhodbcfbaaDoor
