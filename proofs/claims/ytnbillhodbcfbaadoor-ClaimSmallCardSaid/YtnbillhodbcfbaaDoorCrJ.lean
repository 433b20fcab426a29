/- finesselaw16.tells, of positions of few cards. -/
import Derived.Test.YtnbillhodbcfbaaDoorCrI
namespace Go.Proofs.YtnbillhodbcfbaaDoor
open Go.RowKit Go.Shelf Go.Sort Go.Maps Go.WideMaps

section
theorem make_bytes (n : Nat) (hn : n ≤ 1000) (w1 : World) : (Instr.makeSlice 25 (.int .i64 0) (.int .i64 (n : Int))).run Tryd.prog w1 = .ok (.slice (some ⟨w1.heap.size, 0, none⟩) 0 n) (w1.alloc (.cells (Array.replicate n (.int .u8 0)) 5)) := by
  obtain ⟨i, hq, h0, h1, h2⟩ := info_parts info_u8'
  have hr := run_makeSlice (P := Tryd.prog) w1 25 5 i (.int .u8 0) Tryd.underlying25 hq h0 .i64 .i64 0 (n : Int) (by omega) (by omega) (by rw [h1]; simp; omega) (by rw [h2]; omega) (by omega)
  have e : madeCells (Value.int .u8 0).cells n = Array.replicate n (.int .u8 0) := by
    apply Array.ext_getElem?
    intro j
    by_cases hj : j < n
    · simp [madeCells, hj, Value.cells, Nat.mod_one]
    · rw [Array.getElem?_eq_none (by simp [size_madeCells]; omega), Array.getElem?_eq_none (by simp; omega)]
  rw [hr]
  simp only [Int.toNat_natCast, h1, Nat.mul_one, e]
  simp
theorem ownU_makeN (w : World) (base n : Nat) (hn : n ≤ 1000) (h : base ≤ w.heap.size) : OwnU (w.alloc (.cells (Array.replicate n (.int .u8 0)) 5)) base (.slice (some ⟨w.heap.size, 0, none⟩) 0 n) [] :=
  ⟨encU_len, World.ownsRow_made w _ n h (by unfold maxLen; omega) (by simp)⟩
/-- while the position with room is made -/
def TlS (h : Nat → Nat) (tr ld : Nat) (ps : List Nat) (w1 : World) (vs us : List Value) (W : World) : Prop := Below w1.heap.size w1 W ∧ (match vs with
  | [] => True
  | [x] => OwnU W w1.heap.size x []
  | [_, y] => OwnU W w1.heap.size y ps
  | [_, y, z] => OwnU W w1.heap.size y ps ∧ z = .agg (posA h tr ld y)
  | [_, y, _, _] => OwnU W w1.heap.size y ps
  | _ => False) ∧ match us with
  | [] => vs.length ≤ 3
  | [x] => ∃ g, x = .pointer (some ⟨g, 0, none⟩) ∧ w1.heap.size ≤ g ∧ match vs with
    | [_, y, _, _] => Row W g 27 (posA h tr ld y)
    | _ => Row W g 27 zeroP
  | _ => False
variable {h : Nat → Nat} {tr ld : Nat} {ps : List Nat} {w1 W W' : World} {vs us : List Value} {x y : Value}
theorem TlS.alloc6 (H : TlS h tr ld ps w1 [] us W) (o : Obj) {v : Value} (hv : OwnU (W.alloc o) w1.heap.size v []) : TlS h tr ld ps w1 ([] ++ [v]) us (W.alloc o) := by
  refine ⟨H.1.alloc H.1.size o, hv, ?_⟩
  have h3 := H.2.2
  match us, h3 with
  | [], _ => exact (by decide : 1 ≤ 3)
  | [x], ⟨g, h1, h2, h3⟩ => exact ⟨g, h1, h2, Row.alloc h3 o⟩
theorem TlS.app (H : TlS h tr ld ps w1 [x] us W) {v : Value} (ho : OwnU W' w1.heap.size v ([] ++ ps)) (hg : W.grownBy W' x.ownBlock) : TlS h tr ld ps w1 ([x] ++ [v]) us W' := by
  have hO : OwnU W w1.heap.size x [] := H.2.1
  refine ⟨H.1.grown hg H.1.size (fun k hk => (World.ownsRow.lt hO.2 k hk).1), ho, ?_⟩
  have h3 := H.2.2
  match us, h3 with
  | [], _ => exact (by decide : 2 ≤ 3)
  | [u], ⟨g, h1, h2, h3⟩ => exact ⟨g, h1, h2, Row.grown h3 hg fun e => own_apart hO h3 (by decide) e.symm⟩
theorem TlS.box (H : TlS h tr ld ps w1 vs [] W) : TlS h tr ld ps w1 vs ([] ++ [.pointer (some ⟨W.heap.size, 0, none⟩)]) (W.alloc (.cells zeroP 27)) := by
  have h3 : vs.length ≤ 3 := H.2.2
  have hn := Row.new W 27 zeroP
  refine ⟨H.1.alloc H.1.size _, ?_, W.heap.size, rfl, H.1.size, ?_⟩
  · have h2 := H.2.1
    match vs, h3, h2 with
    | [], _, _ => trivial
    | [x], _, h2 => exact Owns.alloc h2 _
    | [x, y], _, h2 => exact Owns.alloc h2 _
    | [x, y, z], _, h2 => exact ⟨Owns.alloc h2.1 _, h2.2⟩
  · match vs, h3 with
    | [], _ => exact hn
    | [x], _ => exact hn
    | [x, y], _ => exact hn
    | [x, y, z], _ => exact hn
theorem TlS.built {z : Value} (H : TlS h tr ld ps w1 [x, y] us W) (hz : z = .agg (posA h tr ld y)) : TlS h tr ld ps w1 ([x, y] ++ [z]) us W := by
  refine ⟨H.1, ⟨H.2.1, hz⟩, ?_⟩
  have h3 := H.2.2
  match us, h3 with
  | [], _ => exact (by decide : 3 ≤ 3)
  | [u], h3 => exact h3
end
/-- what lies in memory while tells compares -/
structure TS (b2 b6 b10 b11 b12 : Nat) (PA IA CI QA DA : Array Value) (ya ca va : Option Addr) (n nl : Nat) (ps ln : List Nat) (w W : World) : Prop where
  r4 : Row W b2 27 PA
  r9 : Row W b6 27 IA
  r10 : Row W b10 44 CI
  r11 : Row W b11 62 QA
  r12 : Row W b12 64 DA
  yi : Byt W ya n ps
  yc : Byt W ca nl ln
  yq : Byt W va n ps
  cn : ∀ b off, ca = some ⟨b, off, none⟩ → b < W.heap.size
  bel : Below w.heap.size w W
  tab : Tab W
theorem TS.step {b2 b6 b10 b11 b12 : Nat} {PA IA CI QA DA : Array Value} {ya ca va : Option Addr} {n nl : Nat} {ps ln : List Nat} {w W W' : World} (h : TS b2 b6 b10 b11 b12 PA IA CI QA DA ya ca va n nl ps ln w W) (hb : Below W.heap.size W W') : TS b2 b6 b10 b11 b12 PA IA CI QA DA ya ca va n nl ps ln w W' :=
  ⟨h.r4.later hb, h.r9.later hb, h.r10.later hb, h.r11.later hb, h.r12.later hb, h.yi.below (Nat.le_refl _) hb, h.yc.below (Nat.le_refl _) hb, h.yq.below (Nat.le_refl _) hb, fun b off e => Nat.lt_of_lt_of_le (h.cn b off e) hb.size, h.bel.trans (hb.mono h.bel.size), h.tab.below h.tab.pos hb⟩
theorem TS.byl {b2 b6 b10 b11 b12 : Nat} {PA IA CI QA DA : Array Value} {ya ca va : Option Addr} {n nl : Nat} {ps ln : List Nat} {w W : World} (h : TS b2 b6 b10 b11 b12 PA IA CI QA DA ya ca va n nl ps ln w W) {la : Option Addr} (hl : Hid (Byt w la nl ln)) : Byt W la nl ln := hl.out.below (Nat.le_refl _) h.bel
theorem agL_52c (sd tr : Nat) (ln : List Nat) : ∀ (n q : Nat) (t : Tb), TbG q t → n + t.cs.length = 4 * q → q ≤ 4 → ∀ y ∈ agL sd tr ln n t, y < 52
  | 0, _, _, _, _, _, y, hy => by cases hy
  | n + 1, q, t, hg, hm, hq, y, hy => by
    have hlg := agC_legal (sd := sd) (tr := tr) hg hm hq ln
    obtain ⟨q', hg', hq', hm'⟩ := hg.put tr hlg hm
    rcases List.mem_cons.1 (show y ∈ agC sd tr ln n t :: agL sd tr ln n (t.put tr (agC sd tr ln n t)).1 from hy) with rfl | h
    · exact (mem_cards.1 (cards_pk hg.ok.pk hlg)).1
    · exact agL_52c sd tr ln n q' _ hg' hm' (by omega) y h
theorem againstV_ok {h : Nat → Nat} {tr ld : Nat} {ps : List Nat} {sd : Nat} {tk : Int} {ln : List Nat} (hw : ∀ s, W64 (h s)) (hq4 : rightB h tr ld ps = true → pop (h ((ld + ps.length) % 4)) ≤ 4) : (againstV h tr ld ps sd tk ln).1.length ≤ 24 ∧ ∀ i, (againstV h tr ld ps sd tk ln).1.getD i 0 < 256 := by
  have key : (againstV h tr ld ps sd tk ln).1.length ≤ 24 ∧ ∀ y ∈ (againstV h tr ld ps sd tk ln).1, y < 52 := by
    unfold againstV
    split
    · exact ⟨by simp, fun y hy => by cases hy⟩
    · rename_i hne
      have hok : (rightB h tr ld ps && claimB sd tk ln (pop (h ((ld + ps.length) % 4)))) = true := by simpa using hne
      rw [Bool.and_eq_true] at hok
      obtain ⟨hp, -⟩ := PosT.of hw hok.1
      have h4 := hq4 hok.1
      exact ⟨by rw [agL_len]; omega, agL_52c sd tr ln _ _ _ hp.tg (pos_len hp) h4⟩
  refine ⟨key.1, fun i => ?_⟩
  rcases Nat.lt_or_ge i (againstV h tr ld ps sd tk ln).1.length with hi | hi
  · have := key.2 ((againstV h tr ld ps sd tk ln).1.getD i 0) (by rw [List.getD_eq_getElem?_getD, List.getElem?_eq_getElem hi]; exact List.getElem_mem hi)
    omega
  · rw [List.getD_eq_getElem?_getD, List.getElem?_eq_none hi]; exact (by decide : (0 : Nat) < 256)
set_option maxHeartbeats 16000000 in
set_option maxRecDepth 10000 in
theorem law16_tells (h : Nat → Nat) (tr ld : Nat) (ps : List Nat) (a : Option Addr) (cap sd : Nat) (tk : Int) (ln : List Nat) (la : Option Addr) (lcap : Nat) (w : World) (hw : ∀ s, W64 (h s)) (htr : tr < 256) (hld : ld < 256) (hsd : sd < 256) (hz : Byt w a ps.length ps) (hl : Byt w la ln.length ln) (hT : Tab w) (h8 : ps.length ≤ 8) (hl60 : ln.length ≤ 60) (hq4 : rightB h tr ld ps = true → pop (h ((ld + ps.length) % 4)) ≤ 4) :
    Calls Tryd.prog 11 #[.agg (posA h tr ld (.slice a ps.length cap)), .int .u8 (sd : Int), .int .i64 tk, .slice la ln.length lcap] w fun e w' => e = .returned (.bool true) ∧ Below w.heap.size w w' := by
  have HYZ := Lib.hid hz
  have H8 := Lib.hid h8
  have HT := Lib.hid hT
  have HL60 := Lib.hid hl60
  have HTH := Lib.hid (fun W hzW => law16_theirs h tr ld ps a ps.length cap W hzW)
  have HL16 := Lib.hid (againstV_ok (sd := sd) (tk := tk) (ln := ln) hw hq4)
  have HHY := Lib.hid (And.intro hw (And.intro htr (And.intro hld (And.intro hsd hq4))))
  have HR0 := Lib.hid (Row.new w 27 (posA h tr ld (.slice a ps.length cap)))
  have HB0 := Lib.hid ((Below.refl w.heap.size w).alloc (Nat.le_refl _) (.cells (posA h tr ld (.slice a ps.length cap)) 27))
  have HLL := Lib.hid hl
  clear hw htr hld h8 hT hz hl hsd hl60 hq4
  go_enter Tryd.func11, Tryd.ntmps11
  go_upto_region 1 with fail
  generalize w.alloc (.cells (posA h tr ld (.slice a ps.length cap)) 27) = w1 at *
  obtain ⟨b2, hb2⟩ : ∃ b, w.heap.size = b := ⟨_, rfl⟩
  have HBS := Lib.hid hb2
  rw [hb2] at HR0 ⊢
  clear hb2
  have HR2 := Lib.hid HR0.out
  have HZ := Lib.hid (HYZ.out.below (Nat.le_refl _) HB0.out)
  obtain ⟨n, hn⟩ : ∃ n, ps.length = n := ⟨_, rfl⟩
  have HN := Lib.hid hn
  rw [hn] at HR2 HZ ⊢
  have HZ0 := Lib.hid (show Byt w a n ps from by rw [← hn]; exact HYZ.out)
  clear hn HR0
  refine wp_region_reliesS (ChF [.pointer (some ⟨b2, 0, none⟩), .agg #[.int .u64 (h 0 : Int), .int .u64 (h 1 : Int), .int .u64 (h 2 : Int), .int .u64 (h 3 : Int)], .pointer (some ⟨b2, 4, none⟩), .int .u8 (tr : Int), .pointer (some ⟨b2, 5, none⟩), .int .u8 (ld : Int), undef, .pointer (some ⟨b2, 6, none⟩), .slice a n cap, undef, undef, undef, undef] [6, 9, 10, 12] [11] (TlS h tr ld ps w1)) (by kernel_rfl) (by kernel_rfl) (by kernel_rfl) (by kernel_rfl) (ChF.start ⟨(Below.refl _ _).drew, trivial, Nat.zero_le _⟩) ?obls ?fini
  case obls =>
    refine ⟨?_, ?_, ?_, ?_, ?_, ?_, ?_, ?_, ?_, ?_, ?_, ?_, ?_, trivial⟩
    · rintro ρ f W ⟨vs, us, hX⟩ hfi hw hcl hf
      have f4 : ρ (.tmp 4) = .pointer (some ⟨b2, 0, none⟩) := hf.1 4 (by simp [Op.operands])
      exact ok_value (v := .pointer (some ⟨b2, 0, none⟩)) (w' := W) (by simp [execOp, f4, go_sem]) (hX.pure 0 _ (by decide) (by decide) rfl hX.st)
    · rintro ρ f W ⟨vs, us, hX⟩ hfi hw hcl hf
      have f34 : ρ (.tmp 34) = .pointer (some ⟨b2, 0, none⟩) := hX.val 0 _ _ (by decide) (by decide) (hf.1 34 (by simp [Op.operands])) rfl
      have hr2 : Row W b2 27 (posA h tr ld (.slice a n cap)) := HR2.out.later hX.st.1
      have c0 := hr2.cell 0
      have c1 := hr2.cell 1
      have c2 := hr2.cell 2
      have c3 := hr2.cell 3
      simp only [posA, List.getElem?_toArray, List.getElem?_cons_zero, List.getElem?_cons_succ] at c0 c1 c2 c3
      exact ok_value (v := .agg #[.int .u64 (h 0 : Int), .int .u64 (h 1 : Int), .int .u64 (h 2 : Int), .int .u64 (h 3 : Int)]) (w' := W) (by simp [execOp, f34, go_sem, c0, c1, c2, c3]) (hX.pure 1 _ (by decide) (by decide) rfl hX.st)
    · rintro ρ f W ⟨vs, us, hX⟩ hfi hw hcl hf
      have f4 : ρ (.tmp 4) = .pointer (some ⟨b2, 0, none⟩) := hf.1 4 (by simp [Op.operands])
      exact ok_value (v := .pointer (some ⟨b2, 4, none⟩)) (w' := W) (by simp [execOp, f4, go_sem]) (hX.pure 2 _ (by decide) (by decide) rfl hX.st)
    · rintro ρ f W ⟨vs, us, hX⟩ hfi hw hcl hf
      have f36 : ρ (.tmp 36) = .pointer (some ⟨b2, 4, none⟩) := hX.val 2 _ _ (by decide) (by decide) (hf.1 36 (by simp [Op.operands])) rfl
      have hr2 : Row W b2 27 (posA h tr ld (.slice a n cap)) := HR2.out.later hX.st.1
      have c4 : W.cell? ⟨b2, 4, none⟩ = some (.int .u8 (tr : Int)) := hr2.cell 4
      exact ok_value (v := .int .u8 (tr : Int)) (w' := W) (by simp [execOp, f36, go_sem, c4]) (hX.pure 3 _ (by decide) (by decide) rfl hX.st)
    · rintro ρ f W ⟨vs, us, hX⟩ hfi hw hcl hf
      have f4 : ρ (.tmp 4) = .pointer (some ⟨b2, 0, none⟩) := hf.1 4 (by simp [Op.operands])
      exact ok_value (v := .pointer (some ⟨b2, 5, none⟩)) (w' := W) (by simp [execOp, f4, go_sem]) (hX.pure 4 _ (by decide) (by decide) rfl hX.st)
    · rintro ρ f W ⟨vs, us, hX⟩ hfi hw hcl hf
      have f38 : ρ (.tmp 38) = .pointer (some ⟨b2, 5, none⟩) := hX.val 4 _ _ (by decide) (by decide) (hf.1 38 (by simp [Op.operands])) rfl
      have hr2 : Row W b2 27 (posA h tr ld (.slice a n cap)) := HR2.out.later hX.st.1
      have c5 : W.cell? ⟨b2, 5, none⟩ = some (.int .u8 (ld : Int)) := hr2.cell 5
      exact ok_value (v := .int .u8 (ld : Int)) (w' := W) (by simp [execOp, f38, go_sem, c5]) (hX.pure 5 _ (by decide) (by decide) rfl hX.st)
    · rintro ρ f W ⟨vs, us, hX⟩ hfi hw hcl hf
      have hl := hX.le1 0 6 rfl hfi
      have hvs := list0 hl
      have hst := hX.st
      rw [hvs] at hst
      have hsz := hst.1.size
      have hmk := make_bytes 12 (by decide) W
      refine ok_value (v := .slice (some ⟨W.heap.size, 0, none⟩) 0 12) (w' := W.alloc (.cells (Array.replicate 12 (.int .u8 0)) 5)) (by simp only [show ((12 : Nat) : Int) = 12 from rfl] at hmk; simp [execOp, hf.2.1, go_sem, hmk]) (hX.step1 6 _ (by rw [hvs]; rfl) (by decide) (by decide) ?_)
      rw [hvs]
      exact TlS.alloc6 hst _ (ownU_makeN W _ 12 (by decide) hsz)
    · rintro ρ f W ⟨vs, us, hX⟩ hfi hw hcl hf
      have f4 : ρ (.tmp 4) = .pointer (some ⟨b2, 0, none⟩) := hf.1 4 (by simp [Op.operands])
      exact ok_value (v := .pointer (some ⟨b2, 6, none⟩)) (w' := W) (by simp [execOp, f4, go_sem]) (hX.pure 7 _ (by decide) (by decide) rfl hX.st)
    · rintro ρ f W ⟨vs, us, hX⟩ hfi hw hcl hf
      have f41 : ρ (.tmp 41) = .pointer (some ⟨b2, 6, none⟩) := hX.val 7 _ _ (by decide) (by decide) (hf.1 41 (by simp [Op.operands])) rfl
      have hr2 : Row W b2 27 (posA h tr ld (.slice a n cap)) := HR2.out.later hX.st.1
      have c6 : W.cell? ⟨b2, 6, none⟩ = some (.slice a n cap) := hr2.cell 6
      exact ok_value (v := .slice a n cap) (w' := W) (by simp [execOp, f41, go_sem, c6]) (hX.pure 8 _ (by decide) (by decide) rfl hX.st)
    · rintro ρ f W ⟨vs, us, hX⟩ hfi hw hcl hf
      have g40 := hX.get1 0 6 rfl (hf.1 40 (by simp [Op.operands, Call.operands]))
      have f42 : ρ (.tmp 42) = .slice a n cap := hX.val 8 _ _ (by decide) (by decide) (hf.1 42 (by simp [Op.operands, Call.operands])) rfl
      have hl := hX.le1 1 9 rfl hfi
      have hvs := list1 hl g40
      have hst := hX.st
      rw [hvs] at hst
      refine ok_appB (.tmp 40) (.tmp 42) rfl w1.heap.size _ [] ps rfl hst.2.1 a n cap f42 (HZ.out.below (Nat.le_refl _) hst.1) (by have := HZ.out.small; simp; omega) hst.1.size fun v' w' ho hg hnew => hX.step1 9 _ (by rw [hvs]; rfl) (by decide) (by decide) ?_
      rw [hvs]
      exact TlS.app hst ho hg
    · rintro ρ f W ⟨vs, us, hX⟩ hfi hw hcl hf
      have f35 : ρ (.tmp 35) = .agg #[.int .u64 (h 0 : Int), .int .u64 (h 1 : Int), .int .u64 (h 2 : Int), .int .u64 (h 3 : Int)] := hX.val 1 _ _ (by decide) (by decide) (hf.1 35 (by simp [Op.operands])) rfl
      have f37 : ρ (.tmp 37) = .int .u8 (tr : Int) := hX.val 3 _ _ (by decide) (by decide) (hf.1 37 (by simp [Op.operands])) rfl
      have f39 : ρ (.tmp 39) = .int .u8 (ld : Int) := hX.val 5 _ _ (by decide) (by decide) (hf.1 39 (by simp [Op.operands])) rfl
      have g43 := hX.get1 1 9 rfl (hf.1 43 (by simp [Op.operands]))
      have hl := hX.le1 2 10 rfl hfi
      obtain ⟨x, hvs⟩ := list2 hl g43
      have hst := hX.st
      rw [hvs] at hst
      obtain ⟨y, hy⟩ : ∃ y, ρ (.tmp 43) = y := ⟨_, rfl⟩
      have hst2 := hst
      rw [hy] at hst2
      obtain ⟨ya, yc, hye, -⟩ := hst2.2.1.slice
      refine ok_value (v := .agg (posA h tr ld y)) (w' := W) (by rw [hye] at hy ⊢; simp [execOp, f35, f37, f39, hy, go_sem, posA]) (hX.step1 10 _ (by rw [hvs]; rfl) (by decide) (by decide) ?_)
      rw [hvs, hy]
      exact TlS.built hst2 rfl
    · rintro ρ f W ⟨vs, us, hX⟩ hfi hw hcl hf
      have hl := hX.le2 0 11 rfl hfi
      have hus := list0 hl
      have hst := hX.st
      rw [hus] at hst
      refine ok_value (v := .pointer (some ⟨W.heap.size, 0, none⟩)) (w' := W.alloc (.cells zeroP 27)) (by simp [execOp, go_sem]) (hX.step2 11 _ (by rw [hus]; rfl) (by decide) (by decide) ?_)
      rw [hus]
      exact TlS.box hst
    · rintro ρ f W ⟨vs, us, hX⟩ hfi hw hcl hf
      have g9 := hX.get2 0 11 rfl (hf.1 9 (by simp [Op.operands]))
      have g44 := hX.get1 2 10 rfl (hf.1 44 (by simp [Op.operands]))
      have hl := hX.le1 3 12 rfl hfi
      obtain ⟨x, y, hvs⟩ := list3 hl g44
      have hus := hX.get2 0 11 rfl (hf.1 9 (by simp [Op.operands]))
      have hus := list1 hX.l2 hus
      have hst := hX.st
      rw [hvs, hus] at hst
      obtain ⟨hb, ⟨hov, hz⟩, g, hp, hg, hr⟩ := hst
      obtain ⟨ya, yc, rfl, -⟩ := hov.slice
      refine ok_skip (exec_store_row 27 (.tmp 9) (.tmp 44) rfl g (posA h tr ld (.slice ya ps.length yc)) hp hz hr size_pos rfl (by simp [posA, Value.oneCell'])) (hX.step1 12 _ (by rw [hvs]; rfl) (by decide) (by decide) ?_)
      rw [hvs, hus]
      exact ⟨below_setRow hb hg _, hov.row hr (by decide) _, g, hp, hg, setRow_heap _ _ _ _ _ _ hr⟩
  case fini =>
    rintro us w2 hlen ⟨vs, us', hX⟩
    have hl0 : us.length = 13 := hlen
    match us, hl0 with
    | [u0, u1, u2, u3, u4, u5, u6, u7, u8, u9, u10, u11, u12], _ =>
      have hst := hX.st
      obtain ⟨z0, z1, z2, hvs⟩ := list4 hX.l1 (hX.get1 3 12 rfl (v := u12) rfl)
      have hus := list1 hX.l2 (hX.get2 0 11 rfl (v := u11) rfl)
      rw [hvs, hus] at hst
      obtain ⟨hb, hov, b6, rfl, hg6, hr6⟩ := hst
      obtain ⟨ya, yc, hve, -, -, -, -, hby⟩ := hov.byt (by have := H8.out; omega) HYZ.out.byte
      subst hve
      rw [HN.out] at hby hr6
      have HB2 := Lib.hid (HB0.out.trans (hb.mono HB0.out.size))
      have HR22 := Lib.hid (HR2.out.later hb)
      have HR6 := Lib.hid hr6
      have HIY := Lib.hid hby
      clear hX hb hov hby hvs hus hr6 hlen HB0 HR2 HZ
      simp only [putAll, List.zip_cons_cons, List.zip_nil_right, List.foldl_cons, List.foldl_nil]
      simp only [Act.put, List.setIfInBounds_toArray, List.set_cons_succ, List.set_cons_zero]
      obtain ⟨nl, hnl⟩ : ∃ z, ln.length = z := ⟨_, rfl⟩
      have HNLN := Lib.hid hnl
      have HLY := Lib.hid (show Byt w la nl ln from by rw [← hnl]; exact HLL.out)
      rw [hnl] at HL60 ⊢
      clear hnl
      have hmk := make_bytes 70 (by decide)
      simp only [show ((70 : Nat) : Int) = 70 from rfl] at hmk
      have HO0 := Lib.hid (ownU_makeN w2 w2.heap.size 70 (by decide) (Nat.le_refl _))
      have ha0 := (Below.refl w2.heap.size w2).alloc (Nat.le_refl _) (.cells (Array.replicate 70 (.int .u8 0)) 5)
      have HA0 := Lib.hid ha0
      have HLY0 := Lib.hid (HLY.out.below (Nat.le_refl _) (HB2.out.trans (ha0.mono HB2.out.size)))
      clear ha0
      go_upto_region 3 with (at_builtin; refine appB rfl (.tmp 47) (.tmp 48) rfl w2.heap.size _ [] ln rfl HO0.out la nl lcap rfl HLY0.out (by have := HL60.out; simp; omega) HA0.out.size ?_; intro v3 w3 hown3 hb3 hg3 hnb3; rw [List.nil_append] at hown3; obtain ⟨ca, cc, hve3, -, -, -, hcn3, hby3⟩ := hown3.byt (by have := HLY.out.small; rw [HNLN.out]; exact this) HLY.out.byte; rw [HNLN.out] at hve3 hby3; subst hve3)
      have ha := (Below.refl w3.heap.size w3).alloc (Nat.le_refl _) (.cells (cmA sd tk (.slice ca nl cc)) 44)
      have hs23 : w2.heap.size ≤ w3.heap.size := Nat.le_trans HA0.out.size hb3.size
      have hbb := (HA0.out.trans hb3).trans (ha.mono hs23)
      have HR9 := Lib.hid (HR6.out.later hbb)
      have HR4 := Lib.hid (HR22.out.later hbb)
      have HYI := Lib.hid (HIY.out.below (Nat.le_refl _) hbb)
      have HYC := Lib.hid (hby3.below (Nat.le_refl _) ha)
      have HCN : Hid (∀ b off, ca = some ⟨b, off, none⟩ → b < (w3.alloc (.cells (cmA sd tk (.slice ca nl cc)) 44)).heap.size) := Lib.hid fun b off e => by
        have := (hcn3 _ e).2
        rw [World.size_alloc]
        exact Nat.lt_succ_of_lt this
      have HR10 := Lib.hid (Row.new w3 44 (cmA sd tk (.slice ca nl cc)))
      have HB3 := Lib.hid (HB2.out.trans (hbb.mono HB2.out.size))
      clear hs23 hbb ha hown3 hb3 hg3 hnb3 hcn3 hby3 HR6 HR22 HIY HB2 HA0 HO0 HLY0 hmk
      show Code.wp _ _ _ _ (w3.alloc (.cells (cmA sd tk (.slice ca nl cc)) 44))
      generalize w3.alloc (.cells (cmA sd tk (.slice ca nl cc)) 44) = w4a at *
      obtain ⟨b10, hb10⟩ : ∃ b, w3.heap.size = b := ⟨_, rfl⟩
      rw [hb10] at HR10 ⊢
      clear hb10
      have HTH := Lib.hid (HTH.out w4a (HYZ.out.below (Nat.le_refl _) HB3.out))
      rw [HN.out] at HTH
      have HPZ : Hid ((posA h tr ld (.slice a n cap)).size = 7) := Lib.hid rfl
      go_wp2_with (refine wpList_load_row rfl 27 (.tmp 4) rfl b2 rfl 27 (posA h tr ld (.slice a n cap)) (0, 0) _ HR4.out Tryd.underlying27 rfl (by rw [HPZ.out]; exact size_pos) ?_)
      refine HTH.out.mono ?_
      rintro e w5 ⟨v5, rfl, hov, hb5⟩
      obtain ⟨va, vc, hve, -, -, -, -, hby⟩ := hov.byt (by have := H8.out; omega) HYZ.out.byte
      rw [HN.out] at hve hby
      subst hve
      have HR4b := Lib.hid (HR4.out.later hb5)
      have HR9b := Lib.hid (HR9.out.later hb5)
      have HR10b := Lib.hid (HR10.out.later hb5)
      have HYIb := Lib.hid (HYI.out.below (Nat.le_refl _) hb5)
      have HYCb := Lib.hid (HYC.out.below (Nat.le_refl _) hb5)
      have HYQb := Lib.hid hby
      have HCNb : Hid (∀ b off, ca = some ⟨b, off, none⟩ → b < w5.heap.size) := Lib.hid fun b off e => Nat.lt_of_lt_of_le (HCN.out b off e) hb5.size
      have HB5 := Lib.hid (HB3.out.trans (hb5.mono HB3.out.size))
      clear hov hb5 hby HR4 HR9 HR10 HYI HYC HCN HB3 HTH
      obtain ⟨QA, hQA⟩ : ∃ A, posA h tr ld (.slice va n vc) = A := ⟨_, rfl⟩
      have HQE := Lib.hid hQA
      have HQ1 : Hid (QA.size = 7 ∧ QA.all (·.oneCell') = true) := Lib.hid (by rw [← hQA]; exact ⟨rfl, by simp [posA, Value.oneCell']⟩)
      rw [hQA]
      clear hQA
      have hs1 : (w5.alloc (.cells zeroP 62)).heap.size = w5.heap.size + 1 := by simp
      have HN11 := Lib.hid ((Row.new w5 62 zeroP).alloc (.cells #[.int .u8 0, .int .i64 0, .slice none 0 0] 64))
      have hn12 := Row.new (w5.alloc (.cells zeroP 62)) 64 #[.int .u8 0, .int .i64 0, .slice none 0 0]
      rw [hs1] at hn12
      have HN12 := Lib.hid (hn12.same (setRow_other ((w5.alloc (.cells zeroP 62)).alloc (.cells #[.int .u8 0, .int .i64 0, .slice none 0 0] 64)) w5.heap.size (w5.heap.size + 1) QA (by omega)))
      have ha := below_setRow (below_setRow (((Below.refl w5.heap.size w5).alloc (Nat.le_refl _) (.cells zeroP 62)).alloc (by rw [hs1]; omega) (.cells #[.int .u8 0, .int .i64 0, .slice none 0 0] 64)) (Nat.le_refl w5.heap.size) QA) (Nat.le_succ w5.heap.size) (cmA sd tk (.slice la nl lcap))
      have hq12 : Row ((((w5.alloc (.cells zeroP 62)).alloc (.cells #[.int .u8 0, .int .i64 0, .slice none 0 0] 64)).setRow w5.heap.size QA).setRow (w5.heap.size + 1) (cmA sd tk (.slice la nl lcap))) (w5.heap.size + 1) 64 (cmA sd tk (.slice la nl lcap)) := setRow_heap _ _ _ _ _ _ HN12.out
      have hq11 : Row ((((w5.alloc (.cells zeroP 62)).alloc (.cells #[.int .u8 0, .int .i64 0, .slice none 0 0] 64)).setRow w5.heap.size QA).setRow (w5.heap.size + 1) (cmA sd tk (.slice la nl lcap))) w5.heap.size 62 QA := Row.same (setRow_heap _ _ _ _ _ _ HN11.out) (setRow_other _ _ _ _ (by omega))
      have HQ11 := Lib.hid hq11
      have HQ12 := Lib.hid hq12
      have HR4c := Lib.hid (HR4b.out.later ha)
      have HR9c := Lib.hid (HR9b.out.later ha)
      have HR10c := Lib.hid (HR10b.out.later ha)
      have HYIc := Lib.hid (HYIb.out.below (Nat.le_refl _) ha)
      have HYCc := Lib.hid (HYCb.out.below (Nat.le_refl _) ha)
      have HYQc := Lib.hid (HYQb.out.below (Nat.le_refl _) ha)
      have HCNc := Lib.hid (fun b off (e : ca = some ⟨b, off, none⟩) => Nat.lt_of_lt_of_le (HCNb.out b off e) ha.size)
      have HB6 := Lib.hid (HB5.out.trans (ha.mono HB5.out.size))
      clear hs1 hn12 ha hq11 hq12 HR4b HR9b HR10b HYIb HYCb HYQb HCNb HB5
      go_upto_region 4 with (first
        | refine wpList_store_row rfl 62 (.tmp 11) (.tmp 52) rfl w5.heap.size QA rfl rfl 62 _ HN11.out (by rw [HQ1.out.1]; exact size_rpos) (by rw [HQ1.out.1]; rfl) HQ1.out.2 ?_
        | refine wpList_store_row rfl 64 (.tmp 12) (.tmp 56) rfl (w5.heap.size + 1) (cmA sd tk (.slice la nl lcap)) rfl rfl 64 _ HN12.out size_rcl rfl (by simp [cmA, Value.oneCell']) ?_)
      generalize (((w5.alloc (.cells zeroP 62)).alloc (.cells #[.int .u8 0, .int .i64 0, .slice none 0 0] 64)).setRow w5.heap.size QA).setRow (w5.heap.size + 1) (cmA sd tk (.slice la nl lcap)) = w4 at *
      obtain ⟨b12, hb12⟩ : ∃ b, w5.heap.size + 1 = b := ⟨_, rfl⟩
      obtain ⟨b11, hb11⟩ : ∃ b, w5.heap.size = b := ⟨_, rfl⟩
      rw [hb12] at HQ12 ⊢
      rw [hb11] at HQ11 ⊢
      clear hb11 hb12 HN11 HN12
      obtain ⟨hw, htr, hld, hsd, hq4⟩ := HHY.out
      have HNX := Lib.hid (fun W (hy : Byt W ya ps.length ps) (hc : Byt W ca ln.length ln) (hT : Tab W) => cl_Next_any h tr ld ps ya yc sd tk ln ca cc hw htr hld hsd W hy hc hT)
      have RNX := Lib.hid (fun W (hy : Byt W va ps.length ps) (hc : Byt W la ln.length ln) => cr_Next h tr ld ps va vc sd tk ln la lcap hw htr hld hsd W hy hc)
      have HCR := Lib.hid (fun W (hy : Byt W ya ps.length ps) (hc : Byt W ca ln.length ln) => cl_Right h tr ld ps ya yc sd tk ln ca cc hw htr hld hsd W hy hc)
      have RCR := Lib.hid (fun W (hy : Byt W va ps.length ps) (hc : Byt W la ln.length ln) => cr_Right h tr ld ps va vc sd tk ln la lcap hw htr hld hsd W hy hc)
      have HSure := Lib.hid (fun W (hy : Byt W ya ps.length ps) (hc : Byt W ca ln.length ln) (hn : ∀ b off, ca = some ⟨b, off, none⟩ → b < W.heap.size) (hT : Tab W) => cl_Sure_any h tr ld ps ya yc sd tk ln ca cc hw htr hld hsd W hy hc hn hT hq4)
      have RSure := Lib.hid (fun W (hy : Byt W va ps.length ps) (hc : Byt W la ln.length ln) => cr_Sure h tr ld ps va vc sd tk ln la lcap hw htr hld hsd W hy hc hq4)
      have HMust := Lib.hid (fun W (hy : Byt W ya ps.length ps) (hT : Tab W) => cl_Must_any h tr ld ps ya yc sd hw htr hld hsd W hy hT hq4)
      have RMust := Lib.hid (fun W (hy : Byt W va ps.length ps) => cr_Must h tr ld ps va vc sd hw htr hld hsd W hy hq4)
      have HBest := Lib.hid (fun W (hy : Byt W ya ps.length ps) (hT : Tab W) => cl_Best_any h tr ld ps ya yc sd hw htr hld hsd W hy hT hq4)
      have RBest := Lib.hid (fun W (hy : Byt W va ps.length ps) => cr_Best h tr ld ps va vc sd hw htr hld hsd W hy hq4)
      have HAward := Lib.hid (fun W (hy : Byt W ya ps.length ps) (hc : Byt W ca ln.length ln) (hn : ∀ b off, ca = some ⟨b, off, none⟩ → b < W.heap.size) (hT : Tab W) => cl_Award_any h tr ld ps ya yc sd tk ln ca cc hw htr hld hsd W hy hc hn hT hq4)
      have RAward := Lib.hid (fun W (hy : Byt W va ps.length ps) (hc : Byt W la ln.length ln) => cr_Award h tr ld ps va vc sd tk ln la lcap hw htr hld hsd W hy hc hq4)
      have HAgainst := Lib.hid (fun W (hy : Byt W ya ps.length ps) (hc : Byt W ca ln.length ln) (hn : ∀ b off, ca = some ⟨b, off, none⟩ → b < W.heap.size) (hT : Tab W) => cl_Against_any h tr ld ps ya yc sd tk ln ca cc hw htr hld hsd W hy hc hn hT hq4)
      have RAgainst := Lib.hid (fun W (hy : Byt W va ps.length ps) (hc : Byt W la ln.length ln) => cr_Against h tr ld ps va vc sd tk ln la lcap hw htr hld hsd W hy hc hq4)
      obtain ⟨V1, hV1⟩ : ∃ z, nextV h tr ld ps sd tk ln = z := ⟨_, rfl⟩
      obtain ⟨R1, hR1⟩ : ∃ z, (rightB h tr ld ps && claimB sd tk ln (pop (h ((ld + ps.length) % 4)))) = z := ⟨_, rfl⟩
      obtain ⟨V2, hV2⟩ : ∃ z, sureV h tr ld ps sd tk ln = z := ⟨_, rfl⟩
      obtain ⟨V3, hV3⟩ : ∃ z, mustV h tr ld ps sd = z := ⟨_, rfl⟩
      obtain ⟨V4, hV4⟩ : ∃ z, bestVV h tr ld ps sd = z := ⟨_, rfl⟩
      obtain ⟨V5, hV5⟩ : ∃ z, awardV h tr ld ps sd tk ln = z := ⟨_, rfl⟩
      obtain ⟨V6, hV6⟩ : ∃ z, againstV h tr ld ps sd tk ln = z := ⟨_, rfl⟩
      rw [hV1] at HNX RNX
      rw [hR1] at HCR RCR
      rw [hV2] at HSure RSure
      rw [hV3] at HMust RMust
      rw [hV4] at HBest RBest
      rw [hV5] at HAward RAward
      rw [hV6] at HAgainst RAgainst HL16
      obtain ⟨L, er6⟩ := V6
      unfold AgvOk at HAgainst RAgainst
      rw [HN.out] at HNX RNX HCR RCR HSure RSure HMust RMust HBest RBest HAward RAward HAgainst RAgainst
      rw [HNLN.out] at HNX HCR HSure HAward HAgainst RNX RCR RSure RAward RAgainst
      obtain ⟨IA, hIA⟩ : ∃ A, posA h tr ld (.slice ya n yc) = A := ⟨_, rfl⟩
      obtain ⟨CI, hCI⟩ : ∃ A, cmA sd tk (.slice ca nl cc) = A := ⟨_, rfl⟩
      obtain ⟨DA, hDA⟩ : ∃ A, cmA sd tk (.slice la nl lcap) = A := ⟨_, rfl⟩
      obtain ⟨PA, hPA⟩ : ∃ A, posA h tr ld (.slice a n cap) = A := ⟨_, rfl⟩
      have HPZ : Hid (PA.size = 7) := Lib.hid (by rw [← hPA]; rfl)
      have HIZ : Hid (IA.size = 7) := Lib.hid (by rw [← hIA]; rfl)
      have HCZ : Hid (CI.size = 3) := Lib.hid (by rw [← hCI]; rfl)
      have HDZ : Hid (DA.size = 3) := Lib.hid (by rw [← hDA]; rfl)
      have HQZ : Hid (QA.size = 7) := Lib.hid HQ1.out.1
      have HPC : Hid (PA[0]? = some (.int .u64 (h 0 : Int)) ∧ PA[1]? = some (.int .u64 (h 1 : Int)) ∧ PA[2]? = some (.int .u64 (h 2 : Int)) ∧ PA[3]? = some (.int .u64 (h 3 : Int)) ∧ PA[6]? = some (.slice a n cap)) := Lib.hid (by rw [← hPA]; exact ⟨rfl, rfl, rfl, rfl, rfl⟩)
      have HIC : Hid (IA[0]? = some (.int .u64 (h 0 : Int)) ∧ IA[1]? = some (.int .u64 (h 1 : Int)) ∧ IA[2]? = some (.int .u64 (h 2 : Int)) ∧ IA[3]? = some (.int .u64 (h 3 : Int)) ∧ IA[6]? = some (.slice ya n yc)) := Lib.hid (by rw [← hIA]; exact ⟨rfl, rfl, rfl, rfl, rfl⟩)
      have HCC : Hid (CI[2]? = some (.slice ca nl cc)) := Lib.hid (by rw [← hCI]; rfl)
      rw [hIA] at HNX HCR HSure HMust HBest HAward HAgainst HR9c
      rw [hCI] at HNX HCR HSure HAward HAgainst HR10c
      rw [hDA] at RNX RCR RSure RAward RAgainst HQ12
      rw [HQE.out] at RNX RCR RSure RMust RBest RAward RAgainst
      rw [hPA] at HR4c
      have HS4 := Lib.hid (show TS b2 b6 b10 b11 b12 PA IA CI QA DA ya ca va n nl ps ln w w4 from ⟨HR4c.out, HR9c.out, HR10c.out, HQ11.out, HQ12.out, HYIc.out, HYCc.out, HYQc.out, HCNc.out, HB6.out, HT.out.below HT.out.pos HB6.out⟩)
      clear hV1 hR1 hV2 hV3 hV4 hV5 hV6 hIA hCI hDA hPA hw htr hld hsd hq4 HR4c HR9c HR10c HQ11 HQ12 HYIc HYCc HYQc HCNc HB6 HHY
      go_wp2_with (first
      | refine wpList_load_row rfl 27 (.tmp 4) rfl b2 rfl 27 PA (0, 0) _ HS4.out.r4 Tryd.underlying27 rfl (by rw [HPZ.out]; exact size_pos) ?_
      | refine wpList_load_row rfl 27 (.tmp 9) rfl b6 rfl 27 IA (0, 0) _ HS4.out.r9 Tryd.underlying27 rfl (by rw [HIZ.out]; exact size_pos) ?_
      | refine wpList_load_row rfl 44 (.tmp 10) rfl b10 rfl 44 CI (0, 0) _ HS4.out.r10 Tryd.underlying44 rfl (by rw [HCZ.out]; exact size_cm) ?_
      | refine wpList_load_row rfl 62 (.tmp 11) rfl b11 rfl 62 QA (0, 0) _ HS4.out.r11 Tryd.underlying62 rfl (by rw [HQZ.out]; exact size_rpos) ?_
      | refine wpList_load_row rfl 64 (.tmp 12) rfl b12 rfl 64 DA (0, 0) _ HS4.out.r12 Tryd.underlying64 rfl (by rw [HDZ.out]; exact size_rcl) ?_)
      refine (HNX.out w4 HS4.out.yi HS4.out.yc HS4.out.tab).mono ?_
      rintro e w5 ⟨rfl, hb⟩
      have HS5 := Lib.hid (HS4.out.step hb)
      clear hb HS4
      go_wp2_with (first
      | refine wpList_load_row rfl 27 (.tmp 4) rfl b2 rfl 27 PA (0, 0) _ HS5.out.r4 Tryd.underlying27 rfl (by rw [HPZ.out]; exact size_pos) ?_
      | refine wpList_load_row rfl 27 (.tmp 9) rfl b6 rfl 27 IA (0, 0) _ HS5.out.r9 Tryd.underlying27 rfl (by rw [HIZ.out]; exact size_pos) ?_
      | refine wpList_load_row rfl 44 (.tmp 10) rfl b10 rfl 44 CI (0, 0) _ HS5.out.r10 Tryd.underlying44 rfl (by rw [HCZ.out]; exact size_cm) ?_
      | refine wpList_load_row rfl 62 (.tmp 11) rfl b11 rfl 62 QA (0, 0) _ HS5.out.r11 Tryd.underlying62 rfl (by rw [HQZ.out]; exact size_rpos) ?_
      | refine wpList_load_row rfl 64 (.tmp 12) rfl b12 rfl 64 DA (0, 0) _ HS5.out.r12 Tryd.underlying64 rfl (by rw [HDZ.out]; exact size_rcl) ?_)
      refine (RNX.out w5 HS5.out.yq (HS5.out.byl HLY)).mono ?_
      rintro e w6 ⟨rfl, hb⟩
      have HS6 := Lib.hid (HS5.out.step hb)
      clear hb HS5
      have HRA := Lib.hid (fun W (hb : Below w6.heap.size w6 W) => HCR.out W (HS6.out.step hb).yi (HS6.out.step hb).yc)
      have HRB := Lib.hid (fun W (hb : Below w6.heap.size w6 W) => RCR.out W (HS6.out.step hb).yq ((HS6.out.step hb).byl HLY))
      go_upto_region 6 with fail
      refine wp_region_quiet_below (by kernel_rfl) (by kernel_rfl) ?_
      repeat (first
        | go_big_quiet_step (fail)
        | quiet_step (with_reducible exact Calls.regrown_of (HRA.out _ (below_regrown _ _ _)))
        | quiet_step (with_reducible exact Calls.regrown_of (HRB.out _ (below_regrown _ _ _)))
        | (refine quiet_rowC (by rfl) 27 (.tmp 9) rfl b6 rfl (fun w' hw' => by obtain ⟨p, rfl⟩ := hw'; exact HS6.out.r9.later (below_regrown _ _ _)) Tryd.underlying27 rfl (by rw [HIZ.out]; exact size_pos) ?_)
        | (refine quiet_rowC (by rfl) 44 (.tmp 10) rfl b10 rfl (fun w' hw' => by obtain ⟨p, rfl⟩ := hw'; exact HS6.out.r10.later (below_regrown _ _ _)) Tryd.underlying44 rfl (by rw [HCZ.out]; exact size_cm) ?_)
        | (refine quiet_rowC (by rfl) 62 (.tmp 11) rfl b11 rfl (fun w' hw' => by obtain ⟨p, rfl⟩ := hw'; exact HS6.out.r11.later (below_regrown _ _ _)) Tryd.underlying62 rfl (by rw [HQZ.out]; exact size_rpos) ?_)
        | (refine quiet_rowC (by rfl) 64 (.tmp 12) rfl b12 rfl (fun w' hw' => by obtain ⟨p, rfl⟩ := hw'; exact HS6.out.r12.later (below_regrown _ _ _)) Tryd.underlying64 rfl (by rw [HDZ.out]; exact size_rcl) ?_)
        | quiet_step (fail))
      refine wpQuiet_nil ?_
      rintro _ ⟨qq, rfl⟩
      have hbq := below_regrown w6 qq.d qq.os
      have HS7 := Lib.hid (HS6.out.step hbq)
      clear hbq HRA HRB HS6
      generalize grow (redrawn w6 qq.d) qq.os = w7 at *
      go_wp2_with (first
      | refine wpList_load_row rfl 27 (.tmp 4) rfl b2 rfl 27 PA (0, 0) _ HS7.out.r4 Tryd.underlying27 rfl (by rw [HPZ.out]; exact size_pos) ?_
      | refine wpList_load_row rfl 27 (.tmp 9) rfl b6 rfl 27 IA (0, 0) _ HS7.out.r9 Tryd.underlying27 rfl (by rw [HIZ.out]; exact size_pos) ?_
      | refine wpList_load_row rfl 44 (.tmp 10) rfl b10 rfl 44 CI (0, 0) _ HS7.out.r10 Tryd.underlying44 rfl (by rw [HCZ.out]; exact size_cm) ?_
      | refine wpList_load_row rfl 62 (.tmp 11) rfl b11 rfl 62 QA (0, 0) _ HS7.out.r11 Tryd.underlying62 rfl (by rw [HQZ.out]; exact size_rpos) ?_
      | refine wpList_load_row rfl 64 (.tmp 12) rfl b12 rfl 64 DA (0, 0) _ HS7.out.r12 Tryd.underlying64 rfl (by rw [HDZ.out]; exact size_rcl) ?_)
      refine (HSure.out w7 HS7.out.yi HS7.out.yc HS7.out.cn HS7.out.tab).mono ?_
      rintro e w8 ⟨rfl, hb⟩
      have HS8 := Lib.hid (HS7.out.step hb)
      clear hb HS7
      go_wp2_with (first
      | refine wpList_load_row rfl 27 (.tmp 4) rfl b2 rfl 27 PA (0, 0) _ HS8.out.r4 Tryd.underlying27 rfl (by rw [HPZ.out]; exact size_pos) ?_
      | refine wpList_load_row rfl 27 (.tmp 9) rfl b6 rfl 27 IA (0, 0) _ HS8.out.r9 Tryd.underlying27 rfl (by rw [HIZ.out]; exact size_pos) ?_
      | refine wpList_load_row rfl 44 (.tmp 10) rfl b10 rfl 44 CI (0, 0) _ HS8.out.r10 Tryd.underlying44 rfl (by rw [HCZ.out]; exact size_cm) ?_
      | refine wpList_load_row rfl 62 (.tmp 11) rfl b11 rfl 62 QA (0, 0) _ HS8.out.r11 Tryd.underlying62 rfl (by rw [HQZ.out]; exact size_rpos) ?_
      | refine wpList_load_row rfl 64 (.tmp 12) rfl b12 rfl 64 DA (0, 0) _ HS8.out.r12 Tryd.underlying64 rfl (by rw [HDZ.out]; exact size_rcl) ?_)
      refine (RSure.out w8 HS8.out.yq (HS8.out.byl HLY)).mono ?_
      rintro e w9 ⟨rfl, hb⟩
      have HS9 := Lib.hid (HS8.out.step hb)
      clear hb HS8
      go_wp2_with (first
      | refine wpList_load_row rfl 27 (.tmp 4) rfl b2 rfl 27 PA (0, 0) _ HS9.out.r4 Tryd.underlying27 rfl (by rw [HPZ.out]; exact size_pos) ?_
      | refine wpList_load_row rfl 27 (.tmp 9) rfl b6 rfl 27 IA (0, 0) _ HS9.out.r9 Tryd.underlying27 rfl (by rw [HIZ.out]; exact size_pos) ?_
      | refine wpList_load_row rfl 44 (.tmp 10) rfl b10 rfl 44 CI (0, 0) _ HS9.out.r10 Tryd.underlying44 rfl (by rw [HCZ.out]; exact size_cm) ?_
      | refine wpList_load_row rfl 62 (.tmp 11) rfl b11 rfl 62 QA (0, 0) _ HS9.out.r11 Tryd.underlying62 rfl (by rw [HQZ.out]; exact size_rpos) ?_
      | refine wpList_load_row rfl 64 (.tmp 12) rfl b12 rfl 64 DA (0, 0) _ HS9.out.r12 Tryd.underlying64 rfl (by rw [HDZ.out]; exact size_rcl) ?_)
      refine (HMust.out w9 HS9.out.yi HS9.out.tab).mono ?_
      rintro e w10 ⟨rfl, hb⟩
      have HS10 := Lib.hid (HS9.out.step hb)
      clear hb HS9
      go_wp2_with (first
      | refine wpList_load_row rfl 27 (.tmp 4) rfl b2 rfl 27 PA (0, 0) _ HS10.out.r4 Tryd.underlying27 rfl (by rw [HPZ.out]; exact size_pos) ?_
      | refine wpList_load_row rfl 27 (.tmp 9) rfl b6 rfl 27 IA (0, 0) _ HS10.out.r9 Tryd.underlying27 rfl (by rw [HIZ.out]; exact size_pos) ?_
      | refine wpList_load_row rfl 44 (.tmp 10) rfl b10 rfl 44 CI (0, 0) _ HS10.out.r10 Tryd.underlying44 rfl (by rw [HCZ.out]; exact size_cm) ?_
      | refine wpList_load_row rfl 62 (.tmp 11) rfl b11 rfl 62 QA (0, 0) _ HS10.out.r11 Tryd.underlying62 rfl (by rw [HQZ.out]; exact size_rpos) ?_
      | refine wpList_load_row rfl 64 (.tmp 12) rfl b12 rfl 64 DA (0, 0) _ HS10.out.r12 Tryd.underlying64 rfl (by rw [HDZ.out]; exact size_rcl) ?_)
      refine (RMust.out w10 HS10.out.yq).mono ?_
      rintro e w11 ⟨rfl, hb⟩
      have HS11 := Lib.hid (HS10.out.step hb)
      clear hb HS10
      go_wp2_with (first
      | refine wpList_load_row rfl 27 (.tmp 4) rfl b2 rfl 27 PA (0, 0) _ HS11.out.r4 Tryd.underlying27 rfl (by rw [HPZ.out]; exact size_pos) ?_
      | refine wpList_load_row rfl 27 (.tmp 9) rfl b6 rfl 27 IA (0, 0) _ HS11.out.r9 Tryd.underlying27 rfl (by rw [HIZ.out]; exact size_pos) ?_
      | refine wpList_load_row rfl 44 (.tmp 10) rfl b10 rfl 44 CI (0, 0) _ HS11.out.r10 Tryd.underlying44 rfl (by rw [HCZ.out]; exact size_cm) ?_
      | refine wpList_load_row rfl 62 (.tmp 11) rfl b11 rfl 62 QA (0, 0) _ HS11.out.r11 Tryd.underlying62 rfl (by rw [HQZ.out]; exact size_rpos) ?_
      | refine wpList_load_row rfl 64 (.tmp 12) rfl b12 rfl 64 DA (0, 0) _ HS11.out.r12 Tryd.underlying64 rfl (by rw [HDZ.out]; exact size_rcl) ?_)
      refine (HBest.out w11 HS11.out.yi HS11.out.tab).mono ?_
      rintro e w12 ⟨rfl, hb⟩
      have HS12 := Lib.hid (HS11.out.step hb)
      clear hb HS11
      go_wp2_with (first
      | refine wpList_load_row rfl 27 (.tmp 4) rfl b2 rfl 27 PA (0, 0) _ HS12.out.r4 Tryd.underlying27 rfl (by rw [HPZ.out]; exact size_pos) ?_
      | refine wpList_load_row rfl 27 (.tmp 9) rfl b6 rfl 27 IA (0, 0) _ HS12.out.r9 Tryd.underlying27 rfl (by rw [HIZ.out]; exact size_pos) ?_
      | refine wpList_load_row rfl 44 (.tmp 10) rfl b10 rfl 44 CI (0, 0) _ HS12.out.r10 Tryd.underlying44 rfl (by rw [HCZ.out]; exact size_cm) ?_
      | refine wpList_load_row rfl 62 (.tmp 11) rfl b11 rfl 62 QA (0, 0) _ HS12.out.r11 Tryd.underlying62 rfl (by rw [HQZ.out]; exact size_rpos) ?_
      | refine wpList_load_row rfl 64 (.tmp 12) rfl b12 rfl 64 DA (0, 0) _ HS12.out.r12 Tryd.underlying64 rfl (by rw [HDZ.out]; exact size_rcl) ?_)
      refine (RBest.out w12 HS12.out.yq).mono ?_
      rintro e w13 ⟨rfl, hb⟩
      have HS13 := Lib.hid (HS12.out.step hb)
      clear hb HS12
      go_wp2_with (first
      | refine wpList_load_row rfl 27 (.tmp 4) rfl b2 rfl 27 PA (0, 0) _ HS13.out.r4 Tryd.underlying27 rfl (by rw [HPZ.out]; exact size_pos) ?_
      | refine wpList_load_row rfl 27 (.tmp 9) rfl b6 rfl 27 IA (0, 0) _ HS13.out.r9 Tryd.underlying27 rfl (by rw [HIZ.out]; exact size_pos) ?_
      | refine wpList_load_row rfl 44 (.tmp 10) rfl b10 rfl 44 CI (0, 0) _ HS13.out.r10 Tryd.underlying44 rfl (by rw [HCZ.out]; exact size_cm) ?_
      | refine wpList_load_row rfl 62 (.tmp 11) rfl b11 rfl 62 QA (0, 0) _ HS13.out.r11 Tryd.underlying62 rfl (by rw [HQZ.out]; exact size_rpos) ?_
      | refine wpList_load_row rfl 64 (.tmp 12) rfl b12 rfl 64 DA (0, 0) _ HS13.out.r12 Tryd.underlying64 rfl (by rw [HDZ.out]; exact size_rcl) ?_)
      refine (HAward.out w13 HS13.out.yi HS13.out.yc HS13.out.cn HS13.out.tab).mono ?_
      rintro e w14 ⟨rfl, hb⟩
      have HS14 := Lib.hid (HS13.out.step hb)
      clear hb HS13
      go_wp2_with (first
      | refine wpList_load_row rfl 27 (.tmp 4) rfl b2 rfl 27 PA (0, 0) _ HS14.out.r4 Tryd.underlying27 rfl (by rw [HPZ.out]; exact size_pos) ?_
      | refine wpList_load_row rfl 27 (.tmp 9) rfl b6 rfl 27 IA (0, 0) _ HS14.out.r9 Tryd.underlying27 rfl (by rw [HIZ.out]; exact size_pos) ?_
      | refine wpList_load_row rfl 44 (.tmp 10) rfl b10 rfl 44 CI (0, 0) _ HS14.out.r10 Tryd.underlying44 rfl (by rw [HCZ.out]; exact size_cm) ?_
      | refine wpList_load_row rfl 62 (.tmp 11) rfl b11 rfl 62 QA (0, 0) _ HS14.out.r11 Tryd.underlying62 rfl (by rw [HQZ.out]; exact size_rpos) ?_
      | refine wpList_load_row rfl 64 (.tmp 12) rfl b12 rfl 64 DA (0, 0) _ HS14.out.r12 Tryd.underlying64 rfl (by rw [HDZ.out]; exact size_rcl) ?_)
      refine (RAward.out w14 HS14.out.yq (HS14.out.byl HLY)).mono ?_
      rintro e w15 ⟨rfl, hb⟩
      have HS15 := Lib.hid (HS14.out.step hb)
      clear hb HS14
      go_wp2_with (first
      | refine wpList_load_row rfl 27 (.tmp 4) rfl b2 rfl 27 PA (0, 0) _ HS15.out.r4 Tryd.underlying27 rfl (by rw [HPZ.out]; exact size_pos) ?_
      | refine wpList_load_row rfl 27 (.tmp 9) rfl b6 rfl 27 IA (0, 0) _ HS15.out.r9 Tryd.underlying27 rfl (by rw [HIZ.out]; exact size_pos) ?_
      | refine wpList_load_row rfl 44 (.tmp 10) rfl b10 rfl 44 CI (0, 0) _ HS15.out.r10 Tryd.underlying44 rfl (by rw [HCZ.out]; exact size_cm) ?_
      | refine wpList_load_row rfl 62 (.tmp 11) rfl b11 rfl 62 QA (0, 0) _ HS15.out.r11 Tryd.underlying62 rfl (by rw [HQZ.out]; exact size_rpos) ?_
      | refine wpList_load_row rfl 64 (.tmp 12) rfl b12 rfl 64 DA (0, 0) _ HS15.out.r12 Tryd.underlying64 rfl (by rw [HDZ.out]; exact size_rcl) ?_)
      refine (HAgainst.out w15 HS15.out.yi HS15.out.yc HS15.out.cn HS15.out.tab).mono ?_
      rintro e w16 ⟨va1, rfl, hoa, hb⟩
      have HS16 := Lib.hid (HS15.out.step hb)
      have HSA := Lib.hid HS15.out
      have HBA1 := Lib.hid hb
      have HOA := Lib.hid hoa
      clear hb hoa
      go_wp2_with (first
      | refine wpList_load_row rfl 27 (.tmp 4) rfl b2 rfl 27 PA (0, 0) _ HS16.out.r4 Tryd.underlying27 rfl (by rw [HPZ.out]; exact size_pos) ?_
      | refine wpList_load_row rfl 27 (.tmp 9) rfl b6 rfl 27 IA (0, 0) _ HS16.out.r9 Tryd.underlying27 rfl (by rw [HIZ.out]; exact size_pos) ?_
      | refine wpList_load_row rfl 44 (.tmp 10) rfl b10 rfl 44 CI (0, 0) _ HS16.out.r10 Tryd.underlying44 rfl (by rw [HCZ.out]; exact size_cm) ?_
      | refine wpList_load_row rfl 62 (.tmp 11) rfl b11 rfl 62 QA (0, 0) _ HS16.out.r11 Tryd.underlying62 rfl (by rw [HQZ.out]; exact size_rpos) ?_
      | refine wpList_load_row rfl 64 (.tmp 12) rfl b12 rfl 64 DA (0, 0) _ HS16.out.r12 Tryd.underlying64 rfl (by rw [HDZ.out]; exact size_rcl) ?_)
      refine (RAgainst.out w16 HS16.out.yq (HS16.out.byl HLY)).mono ?_
      rintro e w17 ⟨vb1, rfl, hob, hb⟩
      have HS17 := Lib.hid (HS16.out.step hb)
      have HOA2 := Lib.hid (Owns.below HOA.out hb)
      have HBAE := Lib.hid (HBA1.out.trans (hb.mono HBA1.out.size))
      obtain ⟨aa, ac, hae, -, -, -, -, haby⟩ := OwnU.byt HOA2.out (by have := HL16.out.1; omega) HL16.out.2
      obtain ⟨ab, bc, hbe, -, -, -, -, hbby⟩ := OwnU.byt hob (by have := HL16.out.1; omega) HL16.out.2
      subst hae hbe
      have HFORM : Hid (L.length = 0 ∨ ∃ g, aa = some ⟨g, 0, none⟩ ∧ w15.heap.size ≤ g) := Lib.hid (by
        rcases HOA2.out.form with ⟨e1, e2⟩ | ⟨g, cc, e1, e2, -⟩
        · exact .inl (by rw [e2]; rfl)
        · injection e1 with e3 e4 e5
          exact .inr ⟨g, e3, e2⟩)
      obtain ⟨N, hN⟩ : ∃ z, L.length = z := ⟨_, rfl⟩
      have HNL := Lib.hid hN
      rw [hN] at haby hbby HOA2 HFORM ⊢
      have hs1 := byt_string haby ac 25 9 5 Tryd.underlying25 Tryd.underlying5 Tryd.underlying9
      have hs2 := byt_string hbby bc 25 9 5 Tryd.underlying25 Tryd.underlying5 Tryd.underlying9
      have hN16 : N ≤ 24 := by have := HL16.out.1; omega
      clear hb hob haby hbby hN HOA HS16
      go_upto_region 23 with fail
      clear hs1 hs2
      try dsimp only [Act.put]
      go_loopg [196] N (fun g iv wr => ∃ (i : Nat) (l' : List Nat), g = N - i ∧ i ≤ N ∧ iv = .int .i64 (i : Int) ∧ l'.length = N ∧ (∀ j, l'.getD j 0 < 256) ∧ OwnU wr w15.heap.size (.slice aa N ac) l' ∧ Below w15.heap.size w17 wr)
      case atStart => exact ⟨0, L, rfl, by omega, rfl, HNL.out, HL16.out.2, HOA2.out, Below.refl _ _⟩
      case round =>
      obtain ⟨i, l', rfl, hi, rfl, hll, h256, hown, hbw⟩ := hrel
      have HOW := Lib.hid hown
      have HBW := Lib.hid hbw
      clear hown hbw
      by_cases hlt : i < N
      · have hdk : decide (i < N) = true := by simp; omega
        have hin : (i : Int) < (N : Int) := by omega
        rcases HFORM.out with h0 | ⟨g, rfl, hg⟩
        · exact absurd h0 (by omega)
        have hxi := h256 i
        obtain ⟨ek, ef⟩ := ownU_at HOW.out (k := i) (by rw [hll]; exact hlt)
        obtain ⟨x, hx⟩ : ∃ x, l'.getD i 0 = x := ⟨_, rfl⟩
        rw [hx] at ek hxi
        have hgi : l'[i]? = some x := by rw [← hx, List.getD_eq_getElem?_getD, List.getElem?_eq_getElem (by rw [hll]; exact hlt)]; rfl
        have hstt := Owns.stored HOW.out i 0 (by decide) (x := x) (y := (x + 1) % 256) (u := .int .u8 (((x + 1) % 256 : Nat) : Int)) hgi rfl
        rw [Nat.mul_one, Nat.add_zero] at hstt
        have HO2 := Lib.hid hstt.1
        have HB2 : Hid (Below w15.heap.size w17 (wr.setCell ⟨g, i, none⟩ (.int .u8 (((x + 1) % 256 : Nat) : Int)))) := Lib.hid (HBW.out.setCell (p := ⟨g, i, none⟩) hg _)
        have HL2 : Hid ((l'.set i ((x + 1) % 256)).length = N ∧ ∀ j, (l'.set i ((x + 1) % 256)).getD j 0 < 256) := Lib.hid ⟨by rw [List.length_set, hll], fun j => by
          rw [List.getD_eq_getElem?_getD, List.getElem?_set]
          split
          · split
            · exact Nat.mod_lt _ (by decide)
            · exact (by decide : (0 : Nat) < 256)
          · have := h256 j; rw [List.getD_eq_getElem?_getD] at this; exact this⟩
        have hwr : IntKind.u8.wrap ((x : Int) + 1) = (((x + 1) % 256 : Nat) : Int) := by rw [IntKind.wrap_u8]; omega
        obtain ⟨y, hy⟩ : ∃ y, (x + 1) % 256 = y := ⟨_, rfl⟩
        rw [hy] at HO2 HB2 HL2 hwr
        have hyx : y = x + 1 ∨ (y = 0 ∧ x = 255) := by omega
        clear hx hgi hstt hy h256 hll hyx
        go_wp2_with fail
        go_roundg (N - (i + 1))
        case measure => omega
        case rel => exact ⟨i + 1, _, rfl, by omega, by go_num, HL2.out.1, HL2.out.2, HO2.out, HB2.out⟩
      · obtain rfl : i = N := by omega
        have hdk : decide (i < i) = false := by simp
        have HSE := Lib.hid (HSA.out.step (HBAE.out.trans HBW.out))
        have yI := HSE.out.yi
        have yP := HZ0.out.below (Nat.le_refl _) HSE.out.bel
        have yC := HSE.out.yc
        have yL := HSE.out.byl HLY
        have s1 := byt_string yI yc 25 9 5 Tryd.underlying25 Tryd.underlying5 Tryd.underlying9
        have s2 := byt_string yP cap 25 9 5 Tryd.underlying25 Tryd.underlying5 Tryd.underlying9
        have s3 := byt_string yC cc 25 9 5 Tryd.underlying25 Tryd.underlying5 Tryd.underlying9
        have s4 := byt_string yL lcap 25 9 5 Tryd.underlying25 Tryd.underlying5 Tryd.underlying9
        have heq := fun W => eq_dealR h W
        have p0 : wr.cell? ⟨b2, 0, none⟩ = some (.int .u64 (h 0 : Int)) := (HSE.out.r4.cell 0).trans HPC.out.1
        have p1 : wr.cell? ⟨b2, 1, none⟩ = some (.int .u64 (h 1 : Int)) := (HSE.out.r4.cell 1).trans HPC.out.2.1
        have p2 : wr.cell? ⟨b2, 2, none⟩ = some (.int .u64 (h 2 : Int)) := (HSE.out.r4.cell 2).trans HPC.out.2.2.1
        have p3 : wr.cell? ⟨b2, 3, none⟩ = some (.int .u64 (h 3 : Int)) := (HSE.out.r4.cell 3).trans HPC.out.2.2.2.1
        have p6 : wr.cell? ⟨b2, 6, none⟩ = some (.slice a n cap) := (HSE.out.r4.cell 6).trans HPC.out.2.2.2.2
        have i0 : wr.cell? ⟨b6, 0, none⟩ = some (.int .u64 (h 0 : Int)) := (HSE.out.r9.cell 0).trans HIC.out.1
        have i1 : wr.cell? ⟨b6, 1, none⟩ = some (.int .u64 (h 1 : Int)) := (HSE.out.r9.cell 1).trans HIC.out.2.1
        have i2 : wr.cell? ⟨b6, 2, none⟩ = some (.int .u64 (h 2 : Int)) := (HSE.out.r9.cell 2).trans HIC.out.2.2.1
        have i3 : wr.cell? ⟨b6, 3, none⟩ = some (.int .u64 (h 3 : Int)) := (HSE.out.r9.cell 3).trans HIC.out.2.2.2.1
        have i6 : wr.cell? ⟨b6, 6, none⟩ = some (.slice ya n yc) := (HSE.out.r9.cell 6).trans HIC.out.2.2.2.2
        have c2 : wr.cell? ⟨b10, 2, none⟩ = some (.slice ca nl cc) := (HSE.out.r10.cell 2).trans HCC.out
        clear yI yP yC yL hlt
        go_wp2_with fail
        go_ret
        exact ⟨rfl, HSE.out.bel⟩
end Go.Proofs.YtnbillhodbcfbaaDoor
