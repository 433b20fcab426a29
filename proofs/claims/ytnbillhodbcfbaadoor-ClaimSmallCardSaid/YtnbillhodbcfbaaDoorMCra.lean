/- CrA, CrB, CrC, CrD in one text. -/
import Derived.Test.YtnbillhodbcfbaaDoorMDse

/- The reference of chapter 16 over this seat's program: legal, Left. -/
namespace Go.Proofs.YtnbillhodbcfbaaDoor
open Go.RowKit Go.Shelf Go.Sort Go.Maps Go.WideMaps

def encI (x : Nat) : List Value := [.int .i64 (x : Int)]
abbrev OwnI (w : World) (base : Nat) (v : Value) (l : List Nat) : Prop := Owns encI 1 3 w base v l
theorem encI_len (x : Nat) : (encI x).length = 1 := rfl
theorem info_int' : (Tryd.prog.info? 3).map (fun i => (i.zero, i.size, i.bytes)) = some (some (.int .i64 0), 1, 8) := by kernel_rfl
theorem appI {w : World} {ops : Array Oper} {rest : List Oper} {o : Oper} {a : Act} {Q : Exit → Act → World → Prop} (hgd : o.guard = none) (s x : Operand)
    (ho : o.op = .call { callee := .builtin .append, args := #[s, x], argTypes := #[101, 101] })
    (base : Nat) (v : Value) (zs : List Nat) (k : Nat) (hs : a.eval s = v) (hown : OwnI w base v zs) (g c : Nat) (hx : a.eval x = .slice (some ⟨g, 0, none⟩) 1 c) (hy : w.cell? ⟨g, 0, none⟩ = some (.int .i64 (k : Int)))
    (hbytes : zs.length ≤ 1000) (hbase : base ≤ w.heap.size)
    (h : ∀ v' w', OwnI w' base v' (zs ++ [k]) → Below base w w' → wpList Tryd.prog ops Q rest (a.put o.dst v') w') : wpList Tryd.prog ops Q (o :: rest) a w := by
  obtain ⟨i0, hi, hz0, hz1, hz2⟩ := info_parts info_int'
  refine wpList_append_own_at _ hgd s x 101 ho base 3 i0 (.int .i64 0) 1 8 Tryd.underlying101 hi hz0 hz1 hz2 rfl (by decide) v zs.length (zs.flatMap encI) hs hown.2 ⟨g, 0, none⟩ 1 c [.int .i64 (k : Int)] hx (by simp) (fun j u hu => by
    rcases j with _ | j
    · rw [← Option.some.inj (show some (Value.int .i64 (k : Int)) = some u from hu)]; exact hy
    · simp at hu) (fun u hu => by rw [List.mem_singleton.1 hu]; rfl) (by unfold maxLen; omega) (by omega) hbase ?_
  intro v' w' h1 h2 _ _
  refine h v' w' ⟨encI_len, ?_⟩ ((Below.refl _ _).grown h2 hbase (fun k hk => (World.ownsRow.lt hown.2 k hk).1))
  rw [List.length_append, List.flatMap_append]
  exact h1
theorem filt_succ (p : Nat → Bool) (k : Nat) : (List.range (k + 1)).filter p = (List.range k).filter p ++ (if p k then [k] else []) := by
  rw [List.range_succ, List.filter_append]
  cases h : p k <;> simp [h]
set_option maxHeartbeats 2000000 in
set_option maxRecDepth 10000 in
theorem cr_legal (h : Nat → Nat) (tr ld : Nat) (ps : List Nat) (a : Option Addr) (cap : Nat) (hw : ∀ s, W64 (h s)) (hld : ld < 256) (w : World) (hz : Byt w a ps.length ps) :
    Calls Tryd.prog 61 #[.agg (posA h tr ld (.slice a ps.length cap))] w fun e w' => ∃ v, e = .returned v ∧ OwnI w' w.heap.size v (Tb.mk h ld ps).cards ∧ Below w.heap.size w w' := by
  have HLE := Lib.hid (fun c (hc : c < 256) W hzW => dr_Legal h tr ld ps a cap c hw hld hc W hzW)
  have HYZ := Lib.hid hz
  obtain ⟨T, hT⟩ : ∃ t : Tb, Tb.mk h ld ps = t := ⟨_, rfl⟩
  have HFS := Lib.hid (fun k => filt_succ T.legal k)
  have HC52 : Hid (T.cards = (List.range 52).filter T.legal) := Lib.hid rfl
  rw [hT] at HLE ⊢
  obtain ⟨PA, hPA⟩ : ∃ A, posA h tr ld (.slice a ps.length cap) = A := ⟨_, rfl⟩
  have HPZ : Hid (PA.size = 7) := Lib.hid (by rw [← hPA]; rfl)
  rw [hPA] at HLE ⊢
  have HR1 := Lib.hid (Row.new w 62 PA)
  have HB1 := Lib.hid ((Below.refl w.heap.size w).alloc (Nat.le_refl _) (.cells PA 62))
  clear hPA hz hT hw hld
  go_enter Tryd.func61, Tryd.ntmps61
  go_upto_region 3 with fail
  generalize w.alloc (.cells PA 62) = w1 at *
  obtain ⟨b1, hb1⟩ : ∃ b, w.heap.size = b := ⟨_, rfl⟩
  have HBS := Lib.hid hb1
  rw [hb1] at HR1 ⊢
  have HS1 : Hid (w.heap.size ≤ w1.heap.size ∧ b1 < w1.heap.size) := Lib.hid ⟨HB1.out.size, HR1.out.lt⟩
  clear hb1
  try dsimp only [Act.put]
  go_loopg [3, 4] 52 (fun g v ci wr => ∃ (k : Nat), g = 52 - k ∧ k ≤ 52 ∧ ci = .int .i64 (k : Int) ∧ OwnI wr w1.heap.size v ((List.range k).filter T.legal) ∧ Row wr b1 62 PA ∧ Below w.heap.size w wr ∧ Below w1.heap.size w1 wr)
  case atStart => exact ⟨0, rfl, by omega, rfl, Owns.nil encI_len _ _, HR1.out, HB1.out, Below.refl _ _⟩
  case round =>
    obtain ⟨k, rfl, hk, rfl, hown, hrow, hbl, hbm⟩ := hrel
    have HBM := Lib.hid hbm
    have HO := Lib.hid hown
    have HRW := Lib.hid hrow
    have HBL := Lib.hid hbl
    have HLN : Hid (((List.range k).filter T.legal).length ≤ 52) := Lib.hid (Nat.le_trans (List.length_filter_le _ _) (by rw [List.length_range]; exact hk))
    clear hown hrow hbl hbm
    by_cases hlt : k < 52
    · have hki : (k : Int) < 52 := by omega
      have HL1 := Lib.hid (HLE.out k (by omega) wr (HYZ.out.below (Nat.le_refl _) HBL.out))
      cases hleg : T.legal k
      · rw [hleg] at HL1
        have HX : Hid ((List.range (k + 1)).filter T.legal = (List.range k).filter T.legal) := Lib.hid (by rw [HFS.out, hleg]; exact List.append_nil _)
        clear hleg
        go_wp2_with (refine wpList_load_row rfl 62 (.tmp 1) rfl b1 rfl 62 PA (0, 0) _ HRW.out Tryd.underlying62 rfl (by rw [HPZ.out]; exact size_rpos) ?_)
        refine HL1.out.mono ?_
        rintro e w3 ⟨rfl, hb3⟩
        have HR3 := Lib.hid (HRW.out.later hb3)
        have HB3 := Lib.hid (HBL.out.trans (hb3.mono HBL.out.size))
        have HO3 := Lib.hid (Owns.below HO.out hb3)
        have HM3 := Lib.hid (HBM.out.trans (hb3.mono HBM.out.size))
        clear hb3
        go_wp2_with fail
        go_roundg (52 - (k + 1))
        case measure => omega
        case rel => exact ⟨k + 1, rfl, by omega, by go_num, by rw [HX.out]; exact HO3.out, HR3.out, HB3.out, HM3.out⟩
      · rw [hleg] at HL1
        have HX : Hid ((List.range (k + 1)).filter T.legal = (List.range k).filter T.legal ++ [k]) := Lib.hid (by rw [HFS.out, hleg]; rfl)
        clear hleg
        go_wp2_with (refine wpList_load_row rfl 62 (.tmp 1) rfl b1 rfl 62 PA (0, 0) _ HRW.out Tryd.underlying62 rfl (by rw [HPZ.out]; exact size_rpos) ?_)
        refine HL1.out.mono ?_
        rintro e w3 ⟨rfl, hb3⟩
        have ha := (Below.refl w3.heap.size w3).alloc (Nat.le_refl _) (.cells #[.int .i64 (k : Int)] 3)
        have hbb := hb3.trans (ha.mono hb3.size)
        have HR3 := Lib.hid (HRW.out.later hbb)
        have HB3 := Lib.hid (HBL.out.trans (hbb.mono HBL.out.size))
        have HO3 := Lib.hid (Owns.below HO.out hbb)
        have HM3 := Lib.hid (HBM.out.trans (hbb.mono HBM.out.size))
        have HN3 := Lib.hid (Row.new w3 3 #[.int .i64 (k : Int)])
        clear hb3 ha hbb HO HRW HBL HL1
        go_upto_region 6 with fail
        go_wp2_with (at_builtin; refine appI rfl (.tmp 12) (.tmp 14) rfl w1.heap.size _ _ k rfl HO3.out _ _ rfl (HN3.out.cell 0) (by have := HLN.out; omega) HM3.out.size ?_; intro v2 w10 hown10 hb10)
        have HO10 := Lib.hid hown10
        have HM10 := Lib.hid (HM3.out.trans hb10)
        have HB10 := Lib.hid (HB3.out.trans (hb10.mono HS1.out.1))
        have HR10 := Lib.hid (HR3.out.same (hb10.block b1 HS1.out.2))
        clear hown10 hb10
        go_wp2_with fail
        go_roundg (52 - (k + 1))
        case measure => omega
        case rel => exact ⟨k + 1, rfl, by omega, by go_num, by rw [HX.out]; exact HO10.out, HR10.out, HB10.out, HM10.out⟩
    · obtain rfl : k = 52 := by omega
      rw [← HC52.out] at HO
      go_wp2_with fail
      go_ret
      exact ⟨_, rfl, HO.out.mono HS1.out.1, HBL.out⟩
end Go.Proofs.YtnbillhodbcfbaaDoor

/- The reference of chapter 16 over this seat's program: Left, Right. -/
namespace Go.Proofs.YtnbillhodbcfbaaDoor
open Go.RowKit Go.Shelf Go.Sort Go.Maps Go.WideMaps

theorem cnt_in52 {h : Nat} (hh : ∀ c, h.testBit c = true → c < 52) : cnt h 52 = pop h := by
  have key : ∀ j, cnt h (52 + j) = cnt h 52 := fun j => by
    induction j with
    | zero => rfl
    | succ j ih =>
      show cnt h (52 + j) + (h.testBit (52 + j)).toNat = _
      rw [ih]
      cases hb : h.testBit (52 + j)
      · rfl
      · have := hh _ hb; omega
  exact (key 12).symm
theorem size_rcl : (Tryd.prog.info? 64).map (·.size) = some 3 := by kernel_rfl
set_option maxHeartbeats 2000000 in
set_option maxRecDepth 10000 in
theorem cr_Left (h : Nat → Nat) (tr ld n : Nat) (a : Option Addr) (cap : Nat) (hw : ∀ s, W64 (h s)) (hld : ld < 256) (hn : n ≤ 140737488351232) (w : World) :
    Calls Tryd.prog 56 #[.agg (posA h tr ld (.slice a n cap))] w fun e w' => e = .returned (.int .i64 (cnt (h ((ld + n) % 4)) 52 : Int)) ∧ Below w.heap.size w w' := by
  have hb1 := (Below.refl w.heap.size w).alloc (Nat.le_refl _) (.cells (posA h tr ld (.slice a n cap)) 62)
  have HTU := Lib.hid (fun W => dr_Turn h tr ld n a cap hld hn W)
  obtain ⟨s, hs⟩ : ∃ s, (ld + n) % 4 = s := ⟨_, rfl⟩
  have hs4 : s < 4 := by omega
  rw [hs] at HTU ⊢
  have hpw := hw s
  obtain ⟨PA, hPA⟩ : ∃ A, posA h tr ld (.slice a n cap) = A := ⟨_, rfl⟩
  have HPC : Hid (∀ s, s < 4 → PA[s]? = some (.int .u64 (h s : Int))) := Lib.hid (by rw [← hPA]; exact fun s hs => posA_h _ _ _ _ hs)
  have HPZ : Hid (PA.size = 7) := Lib.hid (by rw [← hPA]; rfl)
  rw [hPA] at HTU hb1 ⊢
  have HR1 := Lib.hid (Row.new w 62 PA)
  have HB1 := Lib.hid hb1
  clear hPA hw hb1 hs
  go_enter Tryd.func56, Tryd.ntmps56
  go_upto_region 1 with fail
  generalize w.alloc (.cells PA 62) = w1 at *
  obtain ⟨b1, hb1⟩ : ∃ b, w.heap.size = b := ⟨_, rfl⟩
  have HBS := Lib.hid hb1
  rw [hb1] at HR1 ⊢
  clear hb1
  have cS : w1.cell? ⟨b1, s, none⟩ = some (.int .u64 (h s : Int)) := (HR1.out.cell s).trans (HPC.out s hs4)
  have rS := fun dd os => cell_regrown cS dd os
  have hs4i : (s : Int) < 4 := by omega
  clear cS
  refine wp_region_quiet_below (by kernel_rfl) (by kernel_rfl) ?_
  repeat (first
    | go_big_quiet_step (fail)
    | quiet_step (with_reducible exact Calls.regrown_of (HTU.out _))
    | (refine quiet_rowC (by rfl) 62 (.tmp 1) rfl b1 rfl (fun w' hw' => by obtain ⟨p, rfl⟩ := hw'; exact HR1.out.later (below_regrown _ _ _)) Tryd.underlying62 rfl (by rw [HPZ.out]; exact size_rpos) ?_))
  refine wpQuiet_nil ?_
  rintro _ ⟨qq, rfl⟩
  have hbq := below_regrown w1 qq.d qq.os
  have HB2 := Lib.hid (HB1.out.trans (hbq.mono HB1.out.size))
  clear hbq rS HR1 HB1 HTU
  generalize grow (redrawn w1 qq.d) qq.os = w2 at *
  obtain ⟨m, hm⟩ : ∃ m, h s = m := ⟨_, rfl⟩
  rw [hm] at hpw ⊢
  have HM := Lib.hid hm
  clear hm
  go_upto_region 3 with fail
  try dsimp only [Act.put]
  go_loopg [3, 5] 52 (fun g nv ci wr => ∃ (k : Nat), g = 52 - k ∧ k ≤ 52 ∧ ci = .int .i64 (k : Int) ∧ nv = .int .i64 (cnt m k : Int) ∧ wr = w2)
  case atStart => exact ⟨0, rfl, by omega, rfl, rfl, rfl⟩
  case round =>
    obtain ⟨k, rfl, hk, rfl, rfl, rfl⟩ := hrel
    by_cases hlt : k < 52
    · have hki : (k : Int) < 52 := by omega
      have hle := cntLe m k
      have HS := Lib.hid (show cnt m (k + 1) = cnt m k + (m.testBit k).toNat from rfl)
      have hsr := run_shr64 m k .i64 hpw
      have hbb := has_bit2 m k
      have hsw : IntKind.u64.wrap ((shr m k : Nat) % 2 : Int) = ((shr m k : Nat) : Int) % 2 := by rw [IntKind.wrap_u64]; omega
      generalize cnt m k = x at *
      cases hb : m.testBit k
      · rw [hb] at hbb HS
        have HS2 := Lib.hid (show cnt m (k + 1) = x from HS.out)
        clear hb HS
        go_wp2_with fail
        go_roundg (52 - (k + 1))
        case measure => omega
        case rel => exact ⟨k + 1, rfl, by omega, by go_num, by rw [HS2.out], rfl⟩
      · rw [hb] at hbb HS
        have HS2 := Lib.hid (show cnt m (k + 1) = x + 1 from HS.out)
        clear hb HS
        go_wp2_with fail
        go_roundg (52 - (k + 1))
        case measure => omega
        case rel => exact ⟨k + 1, rfl, by omega, by go_num, by rw [HS2.out]; go_num, rfl⟩
    · obtain rfl : k = 52 := by omega
      have HX : Hid (cnt (h s) 52 = cnt m 52) := Lib.hid (by rw [HM.out])
      generalize cnt m 52 = X at *
      go_wp2_with fail
      go_ret
      exact ⟨by rw [HX.out]; rfl, HB2.out⟩
set_option maxHeartbeats 4000000 in
set_option maxRecDepth 10000 in
theorem cr_Right (h : Nat → Nat) (tr ld : Nat) (ps : List Nat) (a : Option Addr) (cap sd : Nat) (tk : Int) (ln : List Nat) (la : Option Addr) (lcap : Nat) (hw : ∀ s, W64 (h s)) (htr : tr < 256) (hld : ld < 256) (hsd : sd < 256) (w : World) (hz : Byt w a ps.length ps) (hl : Byt w la ln.length ln) :
    Calls Tryd.prog 29 #[.agg (posA h tr ld (.slice a ps.length cap)), .agg (cmA sd tk (.slice la ln.length lcap))] w fun e w' => e = .returned (.bool (rightB h tr ld ps && claimB sd tk ln (pop (h ((ld + ps.length) % 4))))) ∧ Below w.heap.size w w' := by
  have hb1 := (Below.refl w.heap.size w).alloc (Nat.le_refl _) (.cells (posA h tr ld (.slice a ps.length cap)) 62)
  have hb2 := hb1.alloc hb1.size (.cells (cmA sd tk (.slice la ln.length lcap)) 64)
  have HRI := Lib.hid (fun W (hb : Below ((w.alloc (.cells (posA h tr ld (.slice a ps.length cap)) 62)).alloc (.cells (cmA sd tk (.slice la ln.length lcap)) 64)).heap.size ((w.alloc (.cells (posA h tr ld (.slice a ps.length cap)) 62)).alloc (.cells (cmA sd tk (.slice la ln.length lcap)) 64)) W) => dr_Right h tr ld ps a cap hw htr hld W ((hz.below (Nat.le_refl _) hb2).below (Nat.le_refl _) hb))
  have HLE := Lib.hid (fun W => cr_Left h tr ld ps.length a cap hw hld (by have := hz.small; omega) W)
  have HB := Lib.hid hb2
  have HR := Lib.hid ((Row.new w 62 (posA h tr ld (.slice a ps.length cap))).alloc (.cells (cmA sd tk (.slice la ln.length lcap)) 64))
  have HC := Lib.hid (Row.new (w.alloc (.cells (posA h tr ld (.slice a ps.length cap)) 62)) 64 (cmA sd tk (.slice la ln.length lcap)))
  have HLY := Lib.hid (hl.below (Nat.le_refl _) hb2)
  have hsz : (w.alloc (.cells (posA h tr ld (.slice a ps.length cap)) 62)).heap.size = w.heap.size + 1 := by simp
  rw [hsz] at HC
  clear hb1 hb2 hsz
  obtain ⟨V, hV⟩ : ∃ V, (rightB h tr ld ps && claimB sd tk ln (pop (h ((ld + ps.length) % 4)))) = V := ⟨_, rfl⟩
  obtain ⟨lf, hlf⟩ : ∃ z, cnt (h ((ld + ps.length) % 4)) 52 = z := ⟨_, rfl⟩
  rw [hlf] at HLE
  have HPF : Hid (rightB h tr ld ps = true → pop (h ((ld + ps.length) % 4)) = lf) := Lib.hid (fun hr => by
    rw [← hlf]
    exact (cnt_in52 (fun c hc => (right_of hw hr).ok.pk.1 _ (Nat.mod_lt _ (by decide)) c hc)).symm)
  obtain ⟨nl, hnl⟩ : ∃ z, ln.length = z := ⟨_, rfl⟩
  have HVE : Hid (V = (rightB h tr ld ps && (decide (sd ≤ 1) && decide (0 ≤ tk) && decide (tk ≤ (lf : Int)) && decide (nl ≤ 24) && playOk (fun _ => 0) ln nl))) := Lib.hid (by
    rw [← hV, ← hnl]
    cases hr : rightB h tr ld ps
    · rfl
    · rw [HPF.out hr]; rfl)
  rw [hV]
  obtain ⟨PA, hPA⟩ : ∃ A, posA h tr ld (.slice a ps.length cap) = A := ⟨_, rfl⟩
  have HZ : Hid (PA.size = 7) := Lib.hid (by rw [← hPA]; rfl)
  obtain ⟨CA, hCA⟩ : ∃ A, cmA sd tk (.slice la ln.length lcap) = A := ⟨_, rfl⟩
  rw [hPA] at HRI HLE HB HR HC HLY ⊢
  rw [hCA] at HRI HB HR HC HLY ⊢
  rw [hnl] at HLY hCA
  have HC0 : Hid (CA[0]? = some (.int .u8 (sd : Int)) ∧ CA[1]? = some (.int .i64 tk) ∧ CA[2]? = some (.slice la nl lcap)) := Lib.hid (by rw [← hCA]; exact ⟨rfl, rfl, rfl⟩)
  have hlf52 : lf ≤ 52 := by rw [← hlf]; exact cntLe _ _
  clear hPA hCA hz hl hw hV hlf hnl HPF
  go_enter Tryd.func29, Tryd.ntmps29
  go_upto_region 1 with fail
  generalize (w.alloc (.cells PA 62)).alloc (.cells CA 64) = wa at *
  obtain ⟨b1, hb1⟩ : ∃ b, w.heap.size = b := ⟨_, rfl⟩
  have HB1 := Lib.hid hb1
  rw [hb1] at HR HC ⊢
  clear hb1
  obtain ⟨b3, hb3⟩ : ∃ b, b1 + 1 = b := ⟨_, rfl⟩
  rw [hb3] at HC ⊢
  clear hb3
  have e0 : wa.cell? ⟨b3, 0, none⟩ = some (.int .u8 (sd : Int)) := (HC.out.cell 0).trans HC0.out.1
  have e1 : wa.cell? ⟨b3, 1, none⟩ = some (.int .i64 tk) := (HC.out.cell 1).trans HC0.out.2.1
  have e2 : wa.cell? ⟨b3, 2, none⟩ = some (.slice la nl lcap) := (HC.out.cell 2).trans HC0.out.2.2
  have r0 := fun dd os => cell_regrown e0 dd os
  have r1 := fun dd os => cell_regrown e1 dd os
  have r2 := fun dd os => cell_regrown e2 dd os
  obtain ⟨rb, hrb⟩ : ∃ z, rightB h tr ld ps = z := ⟨_, rfl⟩
  rw [hrb] at HRI HVE
  clear hrb e0 e1 e2
  have hsm := HLY.out.small
  cases rb
  case false =>
    have HF : Hid (V = false) := Lib.hid (by rw [HVE.out]; rfl)
    refine wp_region_quiet_below (by kernel_rfl) (by kernel_rfl) ?_
    repeat (first
      | go_big_quiet_step (fail)
      | quiet_step (with_reducible exact Calls.regrown_of (HRI.out _ (below_regrown _ _ _)))
      | quiet_step (with_reducible exact Calls.regrown_of (HLE.out _))
      | (refine quiet_rowC (by rfl) 62 (.tmp 2) rfl b1 rfl (fun w' hw' => by obtain ⟨p, rfl⟩ := hw'; exact HR.out.later (below_regrown _ _ _)) Tryd.underlying62 rfl (by rw [HZ.out]; exact size_rpos) ?_))
    refine wpQuiet_nil ?_
    rintro _ ⟨qq, rfl⟩
    have hbq := below_regrown wa qq.d qq.os
    have HB2 := Lib.hid (HB.out.trans (hbq.mono HB.out.size))
    clear hbq r0 r1 r2
    go_wp2_with fail
    go_ret
    exact ⟨by rw [HF.out]; rfl, HB2.out⟩
  case true =>
  rw [Bool.true_and] at HVE
  by_cases h1 : 1 < sd
  · have h1d : decide ((1 : Int) < (sd : Int)) = true := by simp; omega
    have h1d2 : decide (1 < sd) = true := by simp; omega
    have HF : Hid (V = false) := Lib.hid (by rw [HVE.out]; rw [decide_eq_false (show ¬ sd ≤ 1 by omega)]; rfl)
    refine wp_region_quiet_below (by kernel_rfl) (by kernel_rfl) ?_
    repeat (first
      | go_big_quiet_step (fail)
      | quiet_step (with_reducible exact Calls.regrown_of (HRI.out _ (below_regrown _ _ _)))
      | quiet_step (with_reducible exact Calls.regrown_of (HLE.out _))
      | (refine quiet_rowC (by rfl) 62 (.tmp 2) rfl b1 rfl (fun w' hw' => by obtain ⟨p, rfl⟩ := hw'; exact HR.out.later (below_regrown _ _ _)) Tryd.underlying62 rfl (by rw [HZ.out]; exact size_rpos) ?_))
    refine wpQuiet_nil ?_
    rintro _ ⟨qq, rfl⟩
    have hbq := below_regrown wa qq.d qq.os
    have HB2 := Lib.hid (HB.out.trans (hbq.mono HB.out.size))
    clear hbq r0 r1 r2
    go_wp2_with fail
    go_ret
    exact ⟨by rw [HF.out]; rfl, HB2.out⟩
  have h1d : decide ((1 : Int) < (sd : Int)) = false := by simp; omega
  have h1d2 : decide (1 < sd) = false := by simp; omega
  by_cases h2 : tk < 0
  · have h2d : decide (tk < 0) = true := by simp; omega
    have HF : Hid (V = false) := Lib.hid (by rw [HVE.out]; rw [decide_eq_false (show ¬ 0 ≤ tk by omega), Bool.and_false]; rfl)
    refine wp_region_quiet_below (by kernel_rfl) (by kernel_rfl) ?_
    repeat (first
      | go_big_quiet_step (fail)
      | quiet_step (with_reducible exact Calls.regrown_of (HRI.out _ (below_regrown _ _ _)))
      | quiet_step (with_reducible exact Calls.regrown_of (HLE.out _))
      | (refine quiet_rowC (by rfl) 62 (.tmp 2) rfl b1 rfl (fun w' hw' => by obtain ⟨p, rfl⟩ := hw'; exact HR.out.later (below_regrown _ _ _)) Tryd.underlying62 rfl (by rw [HZ.out]; exact size_rpos) ?_))
    refine wpQuiet_nil ?_
    rintro _ ⟨qq, rfl⟩
    have hbq := below_regrown wa qq.d qq.os
    have HB2 := Lib.hid (HB.out.trans (hbq.mono HB.out.size))
    clear hbq r0 r1 r2
    go_wp2_with fail
    go_ret
    exact ⟨by rw [HF.out]; rfl, HB2.out⟩
  have h2d : decide (tk < 0) = false := by simp; omega
  by_cases h3 : (lf : Int) < tk
  · have h3d : decide ((lf : Int) < tk) = true := by simp; omega
    have HF : Hid (V = false) := Lib.hid (by rw [HVE.out]; rw [decide_eq_false (show ¬ tk ≤ (lf : Int) by omega), Bool.and_false]; rfl)
    refine wp_region_quiet_below (by kernel_rfl) (by kernel_rfl) ?_
    repeat (first
      | go_big_quiet_step (fail)
      | quiet_step (with_reducible exact Calls.regrown_of (HRI.out _ (below_regrown _ _ _)))
      | quiet_step (with_reducible exact Calls.regrown_of (HLE.out _))
      | (refine quiet_rowC (by rfl) 62 (.tmp 2) rfl b1 rfl (fun w' hw' => by obtain ⟨p, rfl⟩ := hw'; exact HR.out.later (below_regrown _ _ _)) Tryd.underlying62 rfl (by rw [HZ.out]; exact size_rpos) ?_))
    refine wpQuiet_nil ?_
    rintro _ ⟨qq, rfl⟩
    have hbq := below_regrown wa qq.d qq.os
    have HB2 := Lib.hid (HB.out.trans (hbq.mono HB.out.size))
    clear hbq r0 r1 r2
    go_wp2_with fail
    go_ret
    exact ⟨by rw [HF.out]; rfl, HB2.out⟩
  have h3d : decide ((lf : Int) < tk) = false := by simp; omega
  by_cases h4 : 24 < nl
  · have h4d : decide ((24 : Int) < (nl : Int)) = true := by simp; omega
    have h4d2 : decide (24 < nl) = true := by simp; omega
    have HF : Hid (V = false) := Lib.hid (by rw [HVE.out]; rw [decide_eq_false (show ¬ nl ≤ 24 by omega), Bool.and_false]; rfl)
    refine wp_region_quiet_below (by kernel_rfl) (by kernel_rfl) ?_
    repeat (first
      | go_big_quiet_step (fail)
      | quiet_step (with_reducible exact Calls.regrown_of (HRI.out _ (below_regrown _ _ _)))
      | quiet_step (with_reducible exact Calls.regrown_of (HLE.out _))
      | (refine quiet_rowC (by rfl) 62 (.tmp 2) rfl b1 rfl (fun w' hw' => by obtain ⟨p, rfl⟩ := hw'; exact HR.out.later (below_regrown _ _ _)) Tryd.underlying62 rfl (by rw [HZ.out]; exact size_rpos) ?_))
    refine wpQuiet_nil ?_
    rintro _ ⟨qq, rfl⟩
    have hbq := below_regrown wa qq.d qq.os
    have HB2 := Lib.hid (HB.out.trans (hbq.mono HB.out.size))
    clear hbq r0 r1 r2
    go_wp2_with fail
    go_ret
    exact ⟨by rw [HF.out]; rfl, HB2.out⟩
  have h4d : decide ((24 : Int) < (nl : Int)) = false := by simp; omega
  have h4d2 : decide (24 < nl) = false := by simp; omega
  refine wp_region_quiet_below (by kernel_rfl) (by kernel_rfl) ?_
  repeat (first
    | go_big_quiet_step (fail)
    | quiet_step (with_reducible exact Calls.regrown_of (HRI.out _ (below_regrown _ _ _)))
    | quiet_step (with_reducible exact Calls.regrown_of (HLE.out _))
    | (refine quiet_rowC (by rfl) 62 (.tmp 2) rfl b1 rfl (fun w' hw' => by obtain ⟨p, rfl⟩ := hw'; exact HR.out.later (below_regrown _ _ _)) Tryd.underlying62 rfl (by rw [HZ.out]; exact size_rpos) ?_))
  refine wpQuiet_nil ?_
  rintro _ ⟨qq, rfl⟩
  have hbq := below_regrown wa qq.d qq.os
  have HB2 := Lib.hid (HB.out.trans (hbq.mono HB.out.size))
  have HLY := Lib.hid (HLY.out.below (Nat.le_refl _) hbq)
  have HC := Lib.hid (HC.out.later hbq)
  clear hbq r0 r1 r2 HR HB
  generalize grow (redrawn wa qq.d) qq.os = w2 at *
  have HVE : Hid (V = playOk (fun _ => 0) ln nl) := Lib.hid (by
    rw [HVE.out, decide_eq_true (show sd ≤ 1 by omega), decide_eq_true (show 0 ≤ tk by omega), decide_eq_true (show tk ≤ (lf : Int) by omega), decide_eq_true (show nl ≤ 24 by omega)]; rfl)
  have HPI := Lib.hid (fun k => playOk_iff (fun _ => 0) ln k)
  have HPV : Hid (∀ i j, i < j → j < nl → ln.getD i 0 = ln.getD j 0 → V = false) := Lib.hid (fun i j hij hj e => by
    rw [HVE.out]
    cases hp : playOk (fun _ => 0) ln nl
    · rfl
    · exact absurd e (((HPI.out nl).1 hp).2.2 i j hij hj))
  have HPB : Hid (∀ i, i < nl → 52 ≤ ln.getD i 0 → V = false) := Lib.hid (fun i hi e => by
    rw [HVE.out]
    cases hp : playOk (fun _ => 0) ln nl
    · rfl
    · exact absurd (((HPI.out nl).1 hp).1 i hi) (by omega))
  have hn24 : nl ≤ 24 := by omega
  clear h1 h1d h1d2 h2 h2d h3 h3d h4 h4d h4d2 HRI HLE
  go_upto_region 4 with fail
  try dsimp only [Act.put]
  go_loopg [5] nl (fun g iv wr => ∃ (i : Nat), g = nl - i ∧ i ≤ nl ∧ iv = .int .i64 (i : Int) ∧ playOk (fun _ => 0) ln i = true ∧ Below w2.heap.size w2 wr)
  case atStart => exact ⟨0, rfl, by omega, rfl, rfl, Below.refl _ _⟩
  case round =>
    obtain ⟨i, rfl, hi, rfl, hp, hbw⟩ := hrel
    have HP := Lib.hid hp
    have HBW := Lib.hid (HB2.out.trans (hbw.mono HB2.out.size))
    have HCW := Lib.hid (HC.out.later hbw)
    have HLW := Lib.hid (HLY.out.below (Nat.le_refl _) hbw)
    have HWW := Lib.hid hbw
    have e2 : wr.cell? ⟨b3, 2, none⟩ = some (.slice la nl lcap) := (HCW.out.cell 2).trans HC0.out.2.2
    clear hp hbw
    by_cases hlt : i < nl
    · have hdk : decide (i < nl) = true := by simp; omega
      obtain ⟨bb, off, hae, hbl, hcells⟩ := HLW.out.at (by omega)
      have HBBL := Lib.hid hbl
      have HCL := Lib.hid hcells
      have ek := hcells i hlt
      have hy256 := HLY.out.byte i
      obtain ⟨y, hy⟩ : ∃ y, ln.getD i 0 = y := ⟨_, rfl⟩
      have HYY := Lib.hid hy
      rw [hy] at ek hy256
      subst hae
      clear hy hcells hbl
      by_cases hy51 : 51 < y
      · have hd : decide (51 < y) = true := by simp; omega
        have hd2 : decide ((51 : Int) < (y : Int)) = true := by simp; omega
        have HF := Lib.hid (HPB.out i hlt (by rw [HYY.out]; omega))
        go_wp2_with fail
        go_ret
        exact ⟨by rw [HF.out]; rfl, HBW.out⟩
      · have hd : decide (51 < y) = false := by simp; omega
        have hd2 : decide ((51 : Int) < (y : Int)) = false := by simp; omega
        go_upto_region 9 with fail
        try dsimp only [Act.put]
        go_loopg [6] i (fun g kv wr2 => ∃ (k : Nat), g = i - k ∧ k ≤ i ∧ kv = .int .i64 (k : Int) ∧ (∀ j, j < k → ln.getD j 0 ≠ y) ∧ Below wr.heap.size wr wr2)
        case atStart => exact ⟨0, rfl, by omega, rfl, fun j hj => absurd hj (Nat.not_lt_zero _), Below.refl _ _⟩
        case round =>
          obtain ⟨k, rfl, hk, rfl, hne, hbv⟩ := hrel
          have HNE := Lib.hid hne
          have HBV := Lib.hid hbv
          have HBX := Lib.hid (HBW.out.trans (hbv.mono HBW.out.size))
          clear hne hbv
          by_cases hlk : k < i
          · have hdi : decide (k < i) = true := by simp; omega
            have hc2 := (HCW.out.later HBV.out).cell 2
            have e3 := hc2.trans HC0.out.2.2
            have ez := (HBV.out.cell (p := ⟨bb, off + k, none⟩) HBBL.out).trans (HCL.out k (by omega))
            have ey := (HBV.out.cell (p := ⟨bb, off + i, none⟩) HBBL.out).trans ek
            clear hc2
            have hz256 := HLY.out.byte k
            obtain ⟨z, hz⟩ : ∃ z, ln.getD k 0 = z := ⟨_, rfl⟩
            have HZZ := Lib.hid hz
            rw [hz] at ez hz256
            clear hz
            have r2 := fun dd os => cell_regrown e3 dd os
            have ry := fun dd os => cell_regrown ey dd os
            have rz := fun dd os => cell_regrown ez dd os
            have hkn : (k : Int) < (nl : Int) := by omega
            have hin : (i : Int) < (nl : Int) := by omega
            by_cases hzy : z = y
            · have HF := Lib.hid (HPV.out k i hlk hlt (by rw [HZZ.out, HYY.out, hzy]))
              subst hzy
              go_upto_region 11 with fail
              refine wp_region_quiet_below (by kernel_rfl) (by kernel_rfl) ?_
              repeat (first
                | go_big_quiet_step (fail)
                | quiet_step (fail))
              refine wpQuiet_nil ?_
              rintro _ ⟨qq, rfl⟩
              have HB5 := Lib.hid (HBX.out.trans ((below_regrown _ qq.d qq.os).mono HBX.out.size))
              go_wp2_with fail
              go_ret
              exact ⟨by rw [HF.out]; rfl, HB5.out⟩
            · have hzb : ((z : Int) == (y : Int)) = false := by rw [beq_eq_false_iff_ne]; omega
              have HN1 : Hid (∀ j, j < k + 1 → ln.getD j 0 ≠ y) := Lib.hid fun j hj => by
                rcases Nat.lt_succ_iff_lt_or_eq.1 hj with h | rfl
                · exact HNE.out j h
                · rw [HZZ.out]; exact hzy
              go_upto_region 11 with fail
              refine wp_region_quiet_below (by kernel_rfl) (by kernel_rfl) ?_
              repeat (first
                | go_big_quiet_step (fail)
                | quiet_step (fail))
              refine wpQuiet_nil ?_
              rintro _ ⟨qq, rfl⟩
              have HB5 := Lib.hid (HBV.out.trans ((below_regrown _ qq.d qq.os).mono HBV.out.size))
              clear r2 ry rz
              go_wp2_with fail
              go_roundg (i - (k + 1))
              case measure => omega
              case rel => exact ⟨k + 1, rfl, by omega, by go_num, HN1.out, HB5.out⟩
          · obtain rfl : k = i := by omega
            have hdi : decide (k < k) = false := by simp
            have HP1 : Hid (playOk (fun _ => 0) ln (k + 1) = true) := Lib.hid ((HPI.out (k + 1)).2 ⟨fun j hj => by
              rcases Nat.lt_succ_iff_lt_or_eq.1 hj with h | rfl
              · exact ((HPI.out k).1 HP.out).1 j h
              · rw [HYY.out]; omega, fun j s _ _ => Nat.zero_testBit _, fun j1 j2 h1 h2 => by
              rcases Nat.lt_succ_iff_lt_or_eq.1 h2 with h | rfl
              · exact ((HPI.out k).1 HP.out).2.2 j1 j2 h1 h
              · rw [HYY.out]; exact HNE.out j1 h1⟩)
            go_wp2_with fail
            go_roundg (nl - (k + 1))
            case measure => omega
            case rel => exact ⟨k + 1, rfl, by omega, by go_num, HP1.out, HWW.out.trans (HBV.out.mono HWW.out.size)⟩
    · obtain rfl : i = nl := by omega
      have hdk : decide (i < i) = false := by simp
      have HF : Hid (V = true) := Lib.hid (HVE.out.trans HP.out)
      go_wp2_with fail
      go_ret
      exact ⟨by rw [HF.out]; rfl, HBW.out⟩
end Go.Proofs.YtnbillhodbcfbaaDoor

/- The reference of chapter 16 over this seat's program: next. -/
namespace Go.Proofs.YtnbillhodbcfbaaDoor
open Go.RowKit Go.Shelf Go.Sort Go.Maps Go.WideMaps

theorem find_atR {p : Nat → Bool} {l : List Nat} {i c : Nat} (hi : i < l.length) (hc : l.getD i 0 = c) (hp : p c = true) (hno : ∀ j, j < i → p (l.getD j 0) = false) : l.find? p = some c := by
  have hli : l[i]? = some c := by rw [List.getD_eq_getElem?_getD] at hc; rw [List.getElem?_eq_getElem hi] at hc ⊢; exact congrArg some hc
  refine List.find?_eq_some_iff_append.2 ⟨hp, l.take i, l.drop (i + 1), ?_, fun x hx => ?_⟩
  · have := List.drop_eq_getElem_cons hi
    rw [List.getElem?_eq_getElem hi] at hli
    rw [Option.some.inj hli] at this
    rw [← this, List.take_append_drop]
  · obtain ⟨j, hj, e⟩ := List.mem_iff_getElem.1 hx
    have hj2 : j < i := by rw [List.length_take] at hj; omega
    have := hno j hj2
    rw [List.getD_eq_getElem?_getD, List.getElem?_eq_getElem (show j < l.length by omega)] at this
    rw [List.getElem_take] at e
    rw [← e]
    show (!(p l[j])) = true
    rw [show p l[j] = false from this]; rfl
theorem find_noR {p : Nat → Bool} {l : List Nat} (hno : ∀ j, j < l.length → p (l.getD j 0) = false) : l.find? p = none := by
  refine List.find?_eq_none.2 fun x hx => ?_
  obtain ⟨j, hj, e⟩ := List.mem_iff_getElem.1 hx
  have := hno j hj
  rw [List.getD_eq_getElem?_getD, List.getElem?_eq_getElem hj] at this
  rw [← e, show p l[j] = false from this]
  exact Bool.false_ne_true
theorem lineC_found {t : Tb} {ln : List Nat} {c : Nat} (h : TbOk t) (h0 : canM t ≠ 0) (hf : ln.find? t.legal = some c) : lineC ln t = c := by
  have := (lineM_one h h0 ln).2
  unfold lineL at this
  rw [hf] at this
  exact (List.cons.inj this).1.symm
theorem lineC_none {t : Tb} {ln : List Nat} (h : TbOk t) (h0 : canM t ≠ 0) (hf : ln.find? t.legal = none) : t.cards[0]? = some (lineC ln t) := by
  have := (lineM_one h h0 ln).2
  unfold lineL at this
  rw [hf] at this
  cases hc : t.cards with
  | nil => rw [hc] at this; cases this
  | cons y l => rw [hc] at this; exact congrArg some (List.cons.inj this).1
set_option maxHeartbeats 4000000 in
set_option maxRecDepth 10000 in
theorem cr_next (h : Nat → Nat) (tr ld : Nat) (ps : List Nat) (a : Option Addr) (cap : Nat) (ln : List Nat) (la : Option Addr) (nl lcap : Nat) (hk : TbOk ⟨h, ld, ps⟩) (h0 : canM ⟨h, ld, ps⟩ ≠ 0) (w : World) (hz : Byt w a ps.length ps) (hl : Byt w la nl ln) :
    Calls Tryd.prog 58 #[.agg (posA h tr ld (.slice a ps.length cap)), .slice la nl lcap] w fun e w' => e = .returned (.int .i64 (lineC ln ⟨h, ld, ps⟩ : Int)) ∧ Below w.heap.size w w' := by
  have hld : ld < 256 := by have h1 : ld < 4 := hk.ld; omega
  have HLE := Lib.hid (fun c (hc : c < 256) W hzW => dr_Legal h tr ld ps a cap c hk.w64 hld hc W hzW)
  have HLG := Lib.hid (fun W hzW => cr_legal h tr ld ps a cap hk.w64 hld W hzW)
  have HYZ := Lib.hid hz
  have HLY := Lib.hid hl
  have HLL := Lib.hid hl.length
  obtain ⟨T, hT⟩ : ∃ t : Tb, Tb.mk h ld ps = t := ⟨_, rfl⟩
  rw [hT] at HLE HLG hk h0 ⊢
  have HFO := Lib.hid (fun c hf => lineC_found (ln := ln) (c := c) hk h0 hf)
  have HFN := Lib.hid (lineC_none (ln := ln) hk h0)
  have HNE := Lib.hid (show T.cards.length ≤ 52 from by unfold Tb.cards; exact Nat.le_trans (List.length_filter_le _ _) (by rw [List.length_range]; exact Nat.le_refl _))
  obtain ⟨PA, hPA⟩ : ∃ A, posA h tr ld (.slice a ps.length cap) = A := ⟨_, rfl⟩
  have HPZ : Hid (PA.size = 7) := Lib.hid (by rw [← hPA]; rfl)
  rw [hPA] at HLE HLG ⊢
  have HR1 := Lib.hid (Row.new w 62 PA)
  have HB1 := Lib.hid ((Below.refl w.heap.size w).alloc (Nat.le_refl _) (.cells PA 62))
  have hsm := hl.small
  obtain ⟨LC, hLC⟩ : ∃ x, lineC ln T = x := ⟨_, rfl⟩
  rw [hLC] at HFN
  have HFO : Hid (∀ c, ln.find? T.legal = some c → LC = c) := Lib.hid fun c hf => by rw [← hLC]; exact HFO.out c hf
  rw [hLC]
  clear hPA hz hT hk h0 hl hLC
  go_enter Tryd.func58, Tryd.ntmps58
  go_upto_region 2 with fail
  generalize w.alloc (.cells PA 62) = w1 at *
  obtain ⟨b1, hb1⟩ : ∃ b, w.heap.size = b := ⟨_, rfl⟩
  have HBS := Lib.hid hb1
  rw [hb1] at HR1 ⊢
  clear hb1
  try dsimp only [Act.put]
  go_loopg [5] nl (fun g iv wr => ∃ (i : Nat), g = nl - i ∧ i ≤ nl ∧ iv = .int .i64 (i : Int) ∧ (∀ j, j < i → T.legal (ln.getD j 0) = false) ∧ Row wr b1 62 PA ∧ Below w.heap.size w wr)
  case atStart => exact ⟨0, rfl, by omega, rfl, fun j hj => absurd hj (Nat.not_lt_zero _), HR1.out, HB1.out⟩
  case round =>
    obtain ⟨i, rfl, hi, rfl, hno, hrow, hbl⟩ := hrel
    have HNO := Lib.hid hno
    have HRW := Lib.hid hrow
    have HBL := Lib.hid hbl
    have HYW := Lib.hid (HYZ.out.below (Nat.le_refl _) hbl)
    clear hno hrow hbl
    by_cases hlt : i < nl
    · have hdk : decide (i < nl) = true := by simp; omega
      have hin : (i : Int) < (nl : Int) := by omega
      have HLW := Lib.hid (HLY.out.below (Nat.le_refl _) HBL.out)
      obtain ⟨bb, off, hae, hbb, hcells⟩ := HLW.out.at (by omega)
      have HBBL := Lib.hid hbb
      have ek := hcells i hlt
      have hc256 := HLW.out.byte i
      obtain ⟨c, hc⟩ : ∃ c, ln.getD i 0 = c := ⟨_, rfl⟩
      have HCC := Lib.hid hc
      rw [hc] at ek hc256
      subst hae
      have HL1 := Lib.hid (fun W (hb : Below wr.heap.size wr W) => HLE.out c hc256 W (HYW.out.below (Nat.le_refl _) hb))
      have rk := fun dd os => cell_regrown ek dd os
      clear hc hcells hbb
      cases hleg : T.legal c
      · rw [hleg] at HL1
        have HN1 : Hid (∀ j, j < i + 1 → T.legal (ln.getD j 0) = false) := Lib.hid fun j hj => by
          rcases Nat.lt_succ_iff_lt_or_eq.1 hj with h | rfl
          · exact HNO.out j h
          · rw [HCC.out]; exact hleg
        clear hleg ek
        go_upto_region 4 with fail
        refine wp_region_quiet_below (by kernel_rfl) (by kernel_rfl) ?_
        repeat (first
          | go_big_quiet_step (fail)
          | quiet_step (with_reducible exact Calls.regrown_of (HL1.out _ (below_regrown _ _ _)))
          | (refine quiet_rowC (by rfl) 62 (.tmp 2) rfl b1 rfl (fun w' hw' => by obtain ⟨p, rfl⟩ := hw'; exact HRW.out.later (below_regrown _ _ _)) Tryd.underlying62 rfl (by rw [HPZ.out]; exact size_rpos) ?_)
          | quiet_step (fail))
        refine wpQuiet_nil ?_
        rintro _ ⟨qq, rfl⟩
        have hbq := below_regrown wr qq.d qq.os
        have HR3 := Lib.hid (HRW.out.later hbq)
        have HB3 := Lib.hid (HBL.out.trans (hbq.mono HBL.out.size))
        clear hbq rk
        go_wp2_with fail
        go_roundg (nl - (i + 1))
        case measure => omega
        case rel => exact ⟨i + 1, rfl, by omega, by go_num, HN1.out, HR3.out, HB3.out⟩
      · rw [hleg] at HL1
        have HF : Hid (LC = c) := Lib.hid (HFO.out c (find_atR (by rw [HLL.out]; exact hlt) HCC.out hleg HNO.out))
        clear hleg
        go_upto_region 4 with fail
        refine wp_region_quiet_below (by kernel_rfl) (by kernel_rfl) ?_
        repeat (first
          | go_big_quiet_step (fail)
          | quiet_step (with_reducible exact Calls.regrown_of (HL1.out _ (below_regrown _ _ _)))
          | (refine quiet_rowC (by rfl) 62 (.tmp 2) rfl b1 rfl (fun w' hw' => by obtain ⟨p, rfl⟩ := hw'; exact HRW.out.later (below_regrown _ _ _)) Tryd.underlying62 rfl (by rw [HPZ.out]; exact size_rpos) ?_)
          | quiet_step (fail))
        refine wpQuiet_nil ?_
        rintro _ ⟨qq, rfl⟩
        have hbq := below_regrown wr qq.d qq.os
        have HB3 := Lib.hid (HBL.out.trans (hbq.mono HBL.out.size))
        have ek2 := (hbq.cell (p := ⟨bb, off + i, none⟩) HBBL.out).trans ek
        clear hbq rk ek
        go_wp2_with fail
        go_ret
        exact ⟨by rw [HF.out]; rfl, HB3.out⟩
    · obtain rfl : i = nl := by omega
      have hdk : decide (i < i) = false := by simp
      have HF := Lib.hid (HFN.out (find_noR (by rw [HLL.out]; exact HNO.out)))
      have HG := Lib.hid (HLG.out wr HYW.out)
      clear hlt
      go_wp2_with (refine wpList_load_row rfl 62 (.tmp 2) rfl b1 rfl 62 PA (0, 0) _ HRW.out Tryd.underlying62 rfl (by rw [HPZ.out]; exact size_rpos) ?_)
      refine HG.out.mono ?_
      rintro e w3 ⟨v, rfl, hown, hb3⟩
      have HB3 := Lib.hid (HBL.out.trans (hb3.mono HBL.out.size))
      rcases hown.form with ⟨-, h0⟩ | ⟨g, cc, rfl, -, -, -, -⟩
      · exact absurd HF.out (by rw [h0]; simp)
      have ck := hown.cell 0 0 (by decide) HF.out
      have hl0 : 0 < T.cards.length := (List.getElem?_eq_some_iff.1 HF.out).1
      have ck2 : w3.cell? ⟨g, 0, none⟩ = some (.int .i64 (LC : Int)) := ck
      obtain ⟨N, hN⟩ : ∃ z, T.cards.length = z := ⟨_, rfl⟩
      rw [hN] at hl0 ⊢
      have hl0i : (0 : Int) < (N : Int) := by omega
      clear hb3 hown ck hN
      go_wp2_with fail
      go_ret
      exact ⟨rfl, HB3.out⟩
end Go.Proofs.YtnbillhodbcfbaaDoor

/- claim.Next and the reference's Next, of any position and claim. -/
namespace Go.Proofs.YtnbillhodbcfbaaDoor
open Go.RowKit Go.Shelf Go.Sort Go.Maps Go.WideMaps

/-- what Next says -/
def nextV (h : Nat → Nat) (tr ld : Nat) (ps : List Nat) (sd : Nat) (tk : Int) (ln : List Nat) : Nat × Nat :=
  if (rightB h tr ld ps && claimB sd tk ln (pop (h ((ld + ps.length) % 4)))) = false then (0, 2) else if canM ⟨h, ld, ps⟩ = 0 then (0, 6) else if (Tb.mk h ld ps).turn % 2 ≠ sd then (0, 160) else (lineC ln ⟨h, ld, ps⟩, 0)
theorem claim_parts {sd : Nat} {tk : Int} {ln : List Nat} {q : Nat} (h : claimB sd tk ln q = true) : sd < 2 ∧ 0 ≤ tk ∧ tk ≤ (q : Int) ∧ ln.length ≤ 24 ∧ ∀ y ∈ ln, y < 52 := by
  unfold claimB at h
  simp only [Bool.and_eq_true, decide_eq_true_eq] at h
  obtain ⟨⟨⟨⟨h1, h2⟩, h3⟩, h4⟩, h5⟩ := h
  refine ⟨by omega, h2, h3, h4, fun y hy => ?_⟩
  obtain ⟨i, hi, e⟩ := List.mem_iff_getElem.1 hy
  have := ((playOk_iff _ ln _).1 h5).1 i hi
  rw [List.getD_eq_getElem?_getD, List.getElem?_eq_getElem hi] at this
  rw [← e]; exact this
theorem cl_Next_any (h : Nat → Nat) (tr ld : Nat) (ps : List Nat) (a : Option Addr) (cap sd : Nat) (tk : Int) (ln : List Nat) (la : Option Addr) (lcap : Nat) (hw : ∀ s, W64 (h s)) (htr : tr < 256) (hld : ld < 256) (hsd : sd < 256) (w : World) (hz : Byt w a ps.length ps) (hl : Byt w la ln.length ln) (hT : Tab w) :
    Calls Tryd.prog 22 #[.agg (posA h tr ld (.slice a ps.length cap)), .agg (cmA sd tk (.slice la ln.length lcap))] w fun e w' => e = .returned (.tuple #[.int .u8 ((nextV h tr ld ps sd tk ln).1 : Int), .int .i64 ((nextV h tr ld ps sd tk ln).2 : Int)]) ∧ Below w.heap.size w w' := by
  unfold nextV
  by_cases hok : (rightB h tr ld ps && claimB sd tk ln (pop (h ((ld + ps.length) % 4)))) = false
  · rw [if_pos hok]
    exact cl_Next_no h tr ld ps a cap sd tk ln la lcap hw htr hld hsd w hz hl hok
  · rw [if_neg hok]
    have hok2 : (rightB h tr ld ps && claimB sd tk ln (pop (h ((ld + ps.length) % 4)))) = true := by simpa using hok
    rw [Bool.and_eq_true] at hok2
    obtain ⟨hr, hc⟩ := hok2
    obtain ⟨hs2, -, -, -, h52⟩ := claim_parts hc
    by_cases h0 : canM ⟨h, ld, ps⟩ = 0
    · rw [if_pos h0]
      exact cl_Next_none h tr ld ps a cap sd tk ln la lcap hw htr hld hs2 w hz hl hT _ rfl hr hc h52 h0
    · rw [if_neg h0]
      by_cases hs : (Tb.mk h ld ps).turn % 2 = sd
      · rw [if_neg (fun h => h hs)]
        exact cl_Next_ok h tr ld ps a cap sd tk ln la lcap hw htr hld hs2 w hz hl hT _ rfl hr hc h52 h0 hs
      · rw [if_pos hs]
        exact cl_Next_turn h tr ld ps a cap sd tk ln la lcap hw htr hld hs2 w hz hl hT _ rfl hr hc h52 h0 hs
set_option maxHeartbeats 4000000 in
set_option maxRecDepth 10000 in
theorem cr_Next (h : Nat → Nat) (tr ld : Nat) (ps : List Nat) (a : Option Addr) (cap sd : Nat) (tk : Int) (ln : List Nat) (la : Option Addr) (lcap : Nat) (hw : ∀ s, W64 (h s)) (htr : tr < 256) (hld : ld < 256) (hsd : sd < 256) (w : World) (hz : Byt w a ps.length ps) (hl : Byt w la ln.length ln) :
    Calls Tryd.prog 28 #[.agg (posA h tr ld (.slice a ps.length cap)), .agg (cmA sd tk (.slice la ln.length lcap))] w fun e w' => e = .returned (.tuple #[.int .u8 ((nextV h tr ld ps sd tk ln).1 : Int), .int .i64 ((nextV h tr ld ps sd tk ln).2 : Int)]) ∧ Below w.heap.size w w' := by
  have hb1 := (Below.refl w.heap.size w).alloc (Nat.le_refl _) (.cells (posA h tr ld (.slice a ps.length cap)) 62)
  have hb2 := hb1.alloc hb1.size (.cells (cmA sd tk (.slice la ln.length lcap)) 64)
  have HRI := Lib.hid (cr_Right h tr ld ps a cap sd tk ln la lcap hw htr hld hsd _ (hz.below (Nat.le_refl _) hb2) (hl.below (Nat.le_refl _) hb2))
  have HB := Lib.hid hb2
  have HR := Lib.hid ((Row.new w 62 (posA h tr ld (.slice a ps.length cap))).alloc (.cells (cmA sd tk (.slice la ln.length lcap)) 64))
  have HC := Lib.hid (Row.new (w.alloc (.cells (posA h tr ld (.slice a ps.length cap)) 62)) 64 (cmA sd tk (.slice la ln.length lcap)))
  have HY := Lib.hid (hz.below (Nat.le_refl _) hb2)
  have HLY := Lib.hid (hl.below (Nat.le_refl _) hb2)
  have hsz : (w.alloc (.cells (posA h tr ld (.slice a ps.length cap)) 62)).heap.size = w.heap.size + 1 := by simp
  rw [hsz] at HC
  clear hb1 hb2 hsz
  have HLE := Lib.hid (fun W => cr_Left h tr ld ps.length a cap hw hld (by have := hz.small; omega) W)
  have HTU := Lib.hid (fun W => dr_Turn h tr ld ps.length a cap hld (by have := hz.small; omega) W)
  have HNV : Hid (nextV h tr ld ps sd tk ln = if (rightB h tr ld ps && claimB sd tk ln (pop (h ((ld + ps.length) % 4)))) = false then (0, 2) else if canM ⟨h, ld, ps⟩ = 0 then (0, 6) else if (Tb.mk h ld ps).turn % 2 ≠ sd then (0, 160) else (lineC ln ⟨h, ld, ps⟩, 0)) := Lib.hid rfl
  have HOK := Lib.hid (fun (hok : (rightB h tr ld ps && claimB sd tk ln (pop (h ((ld + ps.length) % 4)))) = true) => show RightP h tr ld ps (pop (h ((ld + ps.length) % 4))) from right_of hw (by rw [Bool.and_eq_true] at hok; exact hok.1))
  have HCP := Lib.hid (fun (hok : (rightB h tr ld ps && claimB sd tk ln (pop (h ((ld + ps.length) % 4)))) = true) => claim_parts (show claimB sd tk ln (pop (h ((ld + ps.length) % 4))) = true from by rw [Bool.and_eq_true] at hok; exact hok.2))
  have HNX := Lib.hid (fun hk h0 W hzW hlW => cr_next h tr ld ps a cap ln la ln.length lcap hk h0 W hzW hlW)
  obtain ⟨V, hV⟩ : ∃ V, nextV h tr ld ps sd tk ln = V := ⟨_, rfl⟩
  rw [hV] at HNV
  obtain ⟨ok, hok⟩ : ∃ z, (rightB h tr ld ps && claimB sd tk ln (pop (h ((ld + ps.length) % 4)))) = z := ⟨_, rfl⟩
  rw [hok] at HRI HNV HOK HCP
  obtain ⟨s, hs⟩ : ∃ z, (ld + ps.length) % 4 = z := ⟨_, rfl⟩
  have HS4 : Hid (s < 4 ∧ (Tb.mk h ld ps).turn = s) := Lib.hid ⟨by omega, hs⟩
  rw [hs] at HLE HTU HOK HCP
  obtain ⟨lf, hlf⟩ : ∃ z, cnt (h s) 52 = z := ⟨_, rfl⟩
  have HPF : Hid (ok = true → pop (h s) = lf) := Lib.hid (fun hr => by
    rw [← hlf]
    exact (cnt_in52 (fun c hc => (HOK.out hr).ok.pk.1 _ HS4.out.1 c hc)).symm)
  have hlf52 : lf ≤ 52 := by rw [← hlf]; exact cntLe _ _
  rw [hlf] at HLE
  rw [hV]
  obtain ⟨PA, hPA⟩ : ∃ A, posA h tr ld (.slice a ps.length cap) = A := ⟨_, rfl⟩
  have HPZ : Hid (PA.size = 7) := Lib.hid (by rw [← hPA]; rfl)
  obtain ⟨nl, hnl⟩ : ∃ z, ln.length = z := ⟨_, rfl⟩
  rw [hPA] at HRI HLE HTU HB HR HC HY HLY HNX ⊢
  rw [hnl] at HRI HB HR HC HY HLY HNX ⊢
  obtain ⟨CA, hCA⟩ : ∃ A, cmA sd tk (.slice la nl lcap) = A := ⟨_, rfl⟩
  have HCZ : Hid (CA.size = 3) := Lib.hid (by rw [← hCA]; rfl)
  rw [hCA] at HRI HB HR HC HY HLY ⊢
  have HC0 : Hid (CA[0]? = some (.int .u8 (sd : Int)) ∧ CA[1]? = some (.int .i64 tk) ∧ CA[2]? = some (.slice la nl lcap)) := Lib.hid (by rw [← hCA]; exact ⟨rfl, rfl, rfl⟩)
  clear hPA hCA hz hl hw hV hlf hnl hok hs
  go_enter Tryd.func28, Tryd.ntmps28
  go_upto_region 1 with fail
  generalize (w.alloc (.cells PA 62)).alloc (.cells CA 64) = wa at *
  obtain ⟨b1, hb1⟩ : ∃ b, w.heap.size = b := ⟨_, rfl⟩
  have HB1 := Lib.hid hb1
  rw [hb1] at HR HC ⊢
  clear hb1
  obtain ⟨b3, hb3⟩ : ∃ b, b1 + 1 = b := ⟨_, rfl⟩
  rw [hb3] at HC ⊢
  clear hb3
  go_wp2_with (first
    | refine wpList_load_row rfl 62 (.tmp 2) rfl b1 rfl 62 PA (0, 0) _ HR.out Tryd.underlying62 rfl (by rw [HPZ.out]; exact size_rpos) ?_
    | refine wpList_load_row rfl 64 (.tmp 3) rfl b3 rfl 64 CA (0, 0) _ HC.out Tryd.underlying64 rfl (by rw [HCZ.out]; exact size_rcl) ?_)
  refine HRI.out.mono ?_
  rintro e w2 ⟨rfl, hb2⟩
  have HR2 := Lib.hid (HR.out.later hb2)
  have HC2 := Lib.hid (HC.out.later hb2)
  have HY2 := Lib.hid (HY.out.below (Nat.le_refl _) hb2)
  have HLY2 := Lib.hid (HLY.out.below (Nat.le_refl _) hb2)
  have HB2 := Lib.hid (HB.out.trans (hb2.mono HB.out.size))
  clear hb2 HR HC HY HLY HB HRI
  cases ok
  · have HV : Hid (V = (0, 2)) := Lib.hid HNV.out
    go_wp2_with fail
    go_ret2
    exact ⟨by rw [HV.out]; rfl, HB2.out⟩
  · have HNV := Lib.hid (HNV.out.trans (if_neg (by decide)))
    have HRP := Lib.hid (HOK.out rfl)
    have HCQ := Lib.hid (HCP.out rfl)
    rw [HPF.out rfl] at HRP HCQ
    clear HCP HOK HPF
    go_upto_region 3 with fail
    go_wp2_with (refine wpList_load_row rfl 62 (.tmp 2) rfl b1 rfl 62 PA (0, 0) _ HR2.out Tryd.underlying62 rfl (by rw [HPZ.out]; exact size_rpos) ?_)
    refine (HLE.out w2).mono ?_
    rintro e w4 ⟨rfl, hb2⟩
    have HR4 := Lib.hid (HR2.out.later hb2)
    have HC4 := Lib.hid (HC2.out.later hb2)
    have HY4 := Lib.hid (HY2.out.below (Nat.le_refl _) hb2)
    have HLY4 := Lib.hid (HLY2.out.below (Nat.le_refl _) hb2)
    have HB4 := Lib.hid (HB2.out.trans (hb2.mono HB2.out.size))
    clear hb2 HR2 HC2 HY2 HLY2 HB2
    by_cases hl0 : lf = 0
    · have hc0 : canM ⟨h, ld, ps⟩ = 0 := can_zero HRP.out.ok (by have := HRP.out.evn; rw [hl0] at this; exact this)
      have HV : Hid (V = (0, 6)) := Lib.hid (HNV.out.trans (if_pos hc0))
      subst hl0
      clear hc0
      go_wp2_with fail
      go_ret2
      exact ⟨by rw [HV.out]; rfl, HB4.out⟩
    · have hc0 : canM ⟨h, ld, ps⟩ ≠ 0 := TbG.can ⟨HRP.out.ok, HRP.out.uniq, HRP.out.evn⟩ (by omega)
      have HNV := Lib.hid (HNV.out.trans (if_neg hc0))
      have HC00 := Lib.hid hc0
      have hlb : ((lf : Int) == 0) = false := by rw [beq_eq_false_iff_ne]; omega
      have hs4 := HS4.out.1
      have hsd2 := HCQ.out.1
      obtain ⟨rr, hrr⟩ : ∃ z, s % 2 = z := ⟨_, rfl⟩
      have HRR : Hid ((Tb.mk h ld ps).turn % 2 = rr) := Lib.hid (by rw [HS4.out.2, hrr])
      have hm1 : (s : Int).tmod 2 = (rr : Int) := by rw [Int.tmod_eq_emod_of_nonneg (by omega)]; omega
      have hm2 : (s : Int) % 2 = (rr : Int) := by omega
      clear hc0 hrr
      go_upto_region 5 with fail
      have cS : w4.cell? ⟨b3, 0, none⟩ = some (.int .u8 (sd : Int)) := (HC4.out.cell 0).trans HC0.out.1
      have rS := fun dd os => cell_regrown cS dd os
      clear cS hlb
      by_cases hrs : rr = sd
      · have hrb : ((rr : Int) != (sd : Int)) = false := by rw [bne_eq_false_iff_eq]; omega
        have HV : Hid (V = (lineC ln ⟨h, ld, ps⟩, 0)) := Lib.hid (HNV.out.trans (if_neg (fun hh => hh (by rw [HRR.out]; exact hrs))))
        have HL52 : Hid (lineC ln ⟨h, ld, ps⟩ < 52) := Lib.hid (mem_cards.1 (cards_pk HRP.out.ok.pk (lineC_mem HRP.out.ok HC00.out ln))).1
        have HNX := Lib.hid (HNX.out HRP.out.ok HC00.out)
        obtain ⟨c, hc⟩ : ∃ z, lineC ln ⟨h, ld, ps⟩ = z := ⟨_, rfl⟩
        rw [hc] at HV HL52 HNX
        have hc52 := HL52.out
        clear hc
        refine wp_region_quiet_below (by kernel_rfl) (by kernel_rfl) ?_
        repeat (first
          | go_big_quiet_step (fail)
          | quiet_step (with_reducible exact Calls.regrown_of (HTU.out _))
          | (refine quiet_rowC (by rfl) 62 (.tmp 2) rfl b1 rfl (fun w' hw' => by obtain ⟨p, rfl⟩ := hw'; exact HR4.out.later (below_regrown _ _ _)) Tryd.underlying62 rfl (by rw [HPZ.out]; exact size_rpos) ?_)
          | quiet_step (fail))
        refine wpQuiet_nil ?_
        rintro _ ⟨qq, rfl⟩
        have hbq := below_regrown w4 qq.d qq.os
        have HB5 := Lib.hid (HB4.out.trans (hbq.mono HB4.out.size))
        have HR5 := Lib.hid (HR4.out.later hbq)
        have HC5 := Lib.hid (HC4.out.later hbq)
        have HN5 := Lib.hid (HNX.out _ (HY4.out.below (Nat.le_refl _) hbq) (HLY4.out.below (Nat.le_refl _) hbq))
        clear hbq rS HR4 HC4 HB4
        generalize grow (redrawn w4 qq.d) qq.os = w5 at *
        have e2 : w5.cell? ⟨b3, 2, none⟩ = some (.slice la nl lcap) := (HC5.out.cell 2).trans HC0.out.2.2
        go_wp2_with (refine wpList_load_row rfl 62 (.tmp 2) rfl b1 rfl 62 PA (0, 0) _ HR5.out Tryd.underlying62 rfl (by rw [HPZ.out]; exact size_rpos) ?_)
        refine HN5.out.mono ?_
        rintro e w6 ⟨rfl, hb6⟩
        have HB6 := Lib.hid (HB5.out.trans (hb6.mono HB5.out.size))
        have hcw : IntKind.u8.wrap (c : Int) = (c : Int) := by rw [IntKind.wrap_u8]; omega
        clear hb6 e2
        go_wp2_with fail
        go_ret2
        exact ⟨by rw [HV.out]; rfl, HB6.out⟩
      · have hrb : ((rr : Int) != (sd : Int)) = true := by rw [bne_iff_ne]; omega
        have HV : Hid (V = (0, 160)) := Lib.hid (HNV.out.trans (if_pos (by rw [HRR.out]; exact hrs)))
        refine wp_region_quiet_below (by kernel_rfl) (by kernel_rfl) ?_
        repeat (first
          | go_big_quiet_step (fail)
          | quiet_step (with_reducible exact Calls.regrown_of (HTU.out _))
          | (refine quiet_rowC (by rfl) 62 (.tmp 2) rfl b1 rfl (fun w' hw' => by obtain ⟨p, rfl⟩ := hw'; exact HR4.out.later (below_regrown _ _ _)) Tryd.underlying62 rfl (by rw [HPZ.out]; exact size_rpos) ?_)
          | quiet_step (fail))
        refine wpQuiet_nil ?_
        rintro _ ⟨qq, rfl⟩
        have hbq := below_regrown w4 qq.d qq.os
        have HB5 := Lib.hid (HB4.out.trans (hbq.mono HB4.out.size))
        clear hbq rS
        go_wp2_with fail
        go_ret2
        exact ⟨by rw [HV.out]; rfl, HB5.out⟩
end Go.Proofs.YtnbillhodbcfbaaDoor
